/- Chapter 09: the reference's wrong, Each, Of, Ints. -/
import Derived.Test.YtidkbodmiegbkaaDoorKeB
import Derived.Test.YtidkbodmiegbkaaDoorKdY
namespace Go.Proofs.YtidkbodmiegbkaaDoor
set_option linter.unusedSimpArgs false
set_option linter.unusedVariables false
open Go.RowKit

theorem rkindK_all {l : List ND} {lv : Value} {W0 : World} : ∀ f, RKindIs l lv W0 f
  | 0 => fun t p vs W H => by
    have := H.deep
    obtain ⟨k, s, n, ks⟩ := t
    simp only [Tr.deep] at this
    omega
  | f + 1 => rkindK_step (rkindK_all f)
theorem fstW_hit {f k : Nat} {s : List Nat} {ks : List Tr} {vs : List (List Nat)} {p i : Nat} (h : fstW f k s ks vs p i < 0) (h2 : 0 ≤ kidW f k s ks vs p i) : ∀ j, i < j → fstW f k s ks vs p j = kidW f k s ks vs p i
  | 0, hj => by omega
  | j + 1, hj => by
    simp only [fstW]
    by_cases e : i = j
    · subst e; rw [if_pos h]
    · rw [fstW_hit h h2 j (by omega), if_neg (by omega)]
def RWrongIs (l : List ND) (lv : Value) (W0 : World) (f : Nat) : Prop := ∀ (t : Tr) (p : Nat) (vs : List (List Nat)) (W : World), RKPre l lv W0 f t p vs W →
  Calls Tryd.prog 17 #[.agg #[lv], .int .i64 (p : Int)] W fun e w' => e = .returned (.int .i64 (wR f t vs p)) ∧ Below W.heap.size W w'
set_option maxRecDepth 100000 in
set_option maxHeartbeats 8000000 in
theorem rwrong_step {l : List ND} {lv : Value} {W0 : World} {f : Nat} (ih : RWrongIs l lv W0 f) : RWrongIs l lv W0 (f + 1) := by
  intro t p vs W H
  obtain ⟨k, s, n, ks⟩ := t
  obtain ⟨hd, hks⟩ := stands_node H.un.stands
  obtain ⟨la, lc, rfl, _, _⟩ := H.hs.form
  have hpl := (List.getElem?_eq_some_iff.1 hd).1
  obtain ⟨nl, hnl⟩ : ∃ z, l.length = z := ⟨_, rfl⟩
  have hok := H.hok _ (List.mem_iff_getElem?.2 ⟨p, hd⟩)
  rw [hnl] at H hpl ih ⊢

  have hB6 := H.hw.alloc H.hw.size (.cells #[.slice la nl lc] 24)
  obtain ⟨b, off, x, rfl, hbB, hxl, ⟨kv, rfl, hkv⟩, hx⟩ := (H.hs.below hB6).at_ hd
  obtain ⟨ka, kc, rfl, _, _⟩ := hkv.form
  simp only [List.length_map, places_len] at hkv hx
  have x0 := hx 0 _ rfl
  have x1 := hx 1 _ rfl
  have x2 := hx 2 _ rfl
  have x3 := hx 3 _ rfl
  simp only [Nat.add_zero] at x0
  have p0 : (0 : Int) ≤ (p : Int) := Int.natCast_nonneg _
  have p1 : (p : Int) < (nl : Int) := by omega
  have HH := Lib.hid H
  have HNL := Lib.hid hnl
  have HKV := Lib.hid hkv
  have IH := Lib.hid ih
  have HNM := Lib.hid hok
  have HSH := Lib.hid H.good.1.1
  have hks3 : ks.length ≤ 3 := by rcases shape_cases HSH.out with ⟨h, _⟩ | ⟨_, h, _⟩ | ⟨_, _, h, _⟩ | ⟨_, _, _, h, _⟩ <;> rw [h] <;> simp
  have HDL := Lib.hid (deep_one H.deep)
  clear H hd hkv hx hxl hks hnl ih hok hB6
  go_enter Tryd.func17, Tryd.ntmps17
  go_upto_region 1 with fail
  have BE0 : Hid (Blk (W.alloc (.cells #[(.slice (some ⟨b, off, none⟩) nl lc)] 24)) W.heap.size 24 #[(.slice (some ⟨b, off, none⟩) nl lc)]) := Lib.hid (Blk.new _ _ _)
  have e0 : (W.alloc (.cells #[(.slice (some ⟨b, off, none⟩) nl lc)] 24)).cell? ⟨W.heap.size, 0, none⟩ = some (.slice (some ⟨b, off, none⟩) nl lc) := BE0.out.cell rfl
  have lw0 : W.heap.size < (W.alloc (.cells #[(.slice (some ⟨b, off, none⟩) nl lc)] 24)).heap.size := BE0.out.lt
  generalize hW1 : W.alloc (.cells #[(.slice (some ⟨b, off, none⟩) nl lc)] 24) = W1 at *
  have HW1 := Lib.hid hW1
  clear hW1
  go_upto_region 2 with fail
  have CS := Lib.hid (CSk.make HW1.out.symm (Below.refl _ _) : CSk W (W1.alloc (.cells #[.int .i64 (k : Int), .string (txt s), .int .i64 n, .slice ka ks.length kc] 46)) (.slice (some ⟨b, off, none⟩) nl lc) W.heap.size W1.heap.size #[.int .i64 (k : Int), .string (txt s), .int .i64 n, .slice ka ks.length kc] (W1.alloc (.cells #[.int .i64 (k : Int), .string (txt s), .int .i64 n, .slice ka ks.length kc] 46)).heap.size)
  generalize hW3 : W1.alloc (.cells #[.int .i64 (k : Int), .string (txt s), .int .i64 n, .slice ka ks.length kc] 46) = W3 at *
  obtain ⟨be, hbe⟩ : ∃ z, W.heap.size = z := ⟨_, rfl⟩
  obtain ⟨bn, hbn⟩ : ∃ z, W1.heap.size = z := ⟨_, rfl⟩
  obtain ⟨B, hB⟩ : ∃ z, W3.heap.size = z := ⟨_, rfl⟩
  rw [hbe, hbn, hB] at CS
  first | rw [hbe, hbn] | rw [hbn, hbe]
  clear x0 x1 x2 x3 e0 lw0 HW1 hW3 BE0 hbe hbn
  have hB3 : B ≤ W3.heap.size := by rw [hB]; exact Nat.le_refl _
  clear hB
  have e0 : (W3).cell? ⟨be, 0, none⟩ = some (.slice (some ⟨b, off, none⟩) nl lc) := CS.out.eb.cell rfl
  have n0 : (W3).cell? ⟨bn, 0, none⟩ = some (.int .i64 (k : Int)) := CS.out.xb.cell rfl
  have n1 : (W3).cell? ⟨bn, 1, none⟩ = some (.string (txt s)) := CS.out.xb.cell rfl
  have n3 : (W3).cell? ⟨bn, 3, none⟩ = some (.slice ka ks.length kc) := CS.out.xb.cell rfl
  have le : be < (W3).heap.size := Nat.lt_of_lt_of_le CS.out.le CS.out.lB
  have ln : bn < (W3).heap.size := Nat.lt_of_lt_of_le CS.out.lx CS.out.lB
  go_wp2_with fail
  go_loopw [6] (fun v6 wr => ∃ i : Nat, i ≤ ks.length ∧ v6 = .int .i64 (i : Int) ∧ Hid (fstW f k s ks vs p i < 0 ∧ CSk W wr (.slice (some ⟨b, off, none⟩) nl lc) be bn #[.int .i64 (k : Int), .string (txt s), .int .i64 n, .slice ka ks.length kc] B)) (fun v6 _ => ks.length - (intOf v6).toNat)
  case atStart => exact ⟨0, Nat.zero_le _, rfl, Lib.hid ⟨by show (-1 : Int) < 0; omega, CS.out⟩⟩
  case round =>
    obtain ⟨i, hi, rfl, hr⟩ := hrel
    have CS4 := Lib.hid hr.out.2
    have HA := Lib.hid hr.out.1
    clear hr CS
    clear e0 n0 n1 n3 le ln
    have e0 : (wr).cell? ⟨be, 0, none⟩ = some (.slice (some ⟨b, off, none⟩) nl lc) := CS4.out.eb.cell rfl
    have n0 : (wr).cell? ⟨bn, 0, none⟩ = some (.int .i64 (k : Int)) := CS4.out.xb.cell rfl
    have n1 : (wr).cell? ⟨bn, 1, none⟩ = some (.string (txt s)) := CS4.out.xb.cell rfl
    have n3 : (wr).cell? ⟨bn, 3, none⟩ = some (.slice ka ks.length kc) := CS4.out.xb.cell rfl
    have le : be < (wr).heap.size := Nat.lt_of_lt_of_le CS4.out.le CS4.out.lB
    have ln : bn < (wr).heap.size := Nat.lt_of_lt_of_le CS4.out.lx CS4.out.lB
    by_cases hlt : i < ks.length
    · obtain ⟨t, ht⟩ : ∃ t, ks[i]? = some t := ⟨_, List.getElem?_eq_getElem hlt⟩
      obtain ⟨q, hq⟩ : ∃ q, (placesL ks (p + 1))[i]? = some q := ⟨_, places_get hlt⟩
      obtain ⟨kbk, ko, rfl, hkc⟩ := kid_readR HKV.out hq
      have xk := hkc wr (HH.out.hw.trans (CS4.out.bel.mono HH.out.hw.size))
      have hkk : kidW f k s ks vs p i = wR f t (vsK k s vs i) q := by unfold kidW; rw [ht, hq]
      obtain ⟨x, hx⟩ : ∃ z, kidW f k s ks vs p i = z := ⟨_, rfl⟩
      have PK : Hid (∀ w', Below W.heap.size W w' → Calls Tryd.prog 17 #[.agg #[(.slice (some ⟨b, off, none⟩) nl lc)], .int .i64 (q : Int)] w' fun e w'' => e = .returned (.int .i64 x) ∧ Below w'.heap.size w' w'') := Lib.hid (fun w' hb => by rw [← hx, hkk]; exact IH.out t q _ w' (RKPre.kid HH.out ht hq hb))
      have HTQ := Lib.hid hx
      have HLT := Lib.hid hlt
      have i0 : (0 : Int) ≤ (i : Int) := Int.natCast_nonneg _
      have i1 : (i : Int) < (ks.length : Int) := by omega
      have i3 : i ≤ 3 := by omega
      clear ht hq hkc hkk hx
      go_upto_region 5 with fail
      go_still_tail 6, (by kernel_rfl)
      change wpList _ _ _ _ _ wr.drew
      have CS5 := Lib.hid CS4.out.drew
      generalize wr.drew = w5 at *
      by_cases hx0 : 0 ≤ x
      · have ex : decide (0 ≤ x) = true := by simp; omega
        have hv : wR (f + 1) (.node k s n ks) vs p = x := by
          have := fstW_hit HA.out (by rw [HTQ.out]; exact hx0) ks.length hlt
          rw [wR_succ, this, HTQ.out, if_pos hx0]
        have HV := Lib.hid hv
        clear hv hx0
        go_wp2_with (first
          | (go_at_call 17; go_must (refine (PK.out w5 CS5.out.bel).mono ?_); rintro e w6 ⟨rfl, hb⟩; go_must (have CS6 := Lib.hid (CS5.out.call hb)); clear hb)
          | fail)
        go_ret
        exact ⟨by rw [HV.out]; try rfl, CS6.out.bel⟩
      · have ex : decide (0 ≤ x) = false := by simp; omega
        have HX0 := Lib.hid hx0
        clear hx0
        go_wp2_with (first
          | (go_at_call 17; go_must (refine (PK.out w5 CS5.out.bel).mono ?_); rintro e w6 ⟨rfl, hb⟩; go_must (have CS6 := Lib.hid (CS5.out.call hb)); clear hb)
          | fail)
        go_roundw
        case rel => exact ⟨i + 1, by omega, by go_num, Lib.hid ⟨by simp only [fstW]; rw [if_pos HA.out, HTQ.out]; have := HX0.out; omega, CS6.out⟩⟩
        case measure => simp [intOf]; omega
    · have hin : i = ks.length := by omega
      subst hin
      have RK := Lib.hid (rkindK_all (f + 1) _ p vs wr (⟨HH.out.hs, HH.out.hok, HH.out.hl, HH.out.good, HH.out.deep, HH.out.un, HH.out.hw.trans (CS4.out.bel.mono HH.out.hw.size)⟩ : RKPre l (.slice (some ⟨b, off, none⟩) nl lc) W0 (f + 1) (.node k s n ks) p vs wr))
      have hv : wR (f + 1) (.node k s n ks) vs p = if kR (f + 1) (.node k s n ks) vs = 0 then (p : Int) else -1 := by rw [wR_succ, if_neg (by have := HA.out; omega)]
      obtain ⟨kr, hkr⟩ : ∃ z, kR (f + 1) (.node k s n ks) vs = z := ⟨_, rfl⟩
      rw [hkr] at RK hv
      clear hlt hi hkr
      by_cases hk0 : kr = 0
      all_goals
        first | have ek : (kr == 0) = true := by (rw [hk0]; rfl) | have ek : (kr == 0) = false := by (simpa using hk0)
        first | rw [if_pos hk0] at hv | rw [if_neg hk0] at hv
        have HV := Lib.hid hv
        clear hv hk0
        go_wp2_with (first
          | (go_at_call 18; go_must (refine RK.out.mono ?_); rintro e w6 ⟨rfl, hb⟩; go_must (have CS6 := Lib.hid (CS4.out.call hb)); clear hb)
          | fail)
        go_ret
        exact ⟨by rw [HV.out]; try rfl, CS6.out.bel⟩
theorem rwrong_all {l : List ND} {lv : Value} {W0 : World} : ∀ f, RWrongIs l lv W0 f
  | 0 => fun t p vs W H => by
    have := H.deep
    obtain ⟨k, s, n, ks⟩ := t
    simp only [Tr.deep] at this
    omega
  | f + 1 => rwrong_step (rwrong_all f)
/-- every node of the whole stands below, well made; its kind is among all nodes' kinds -/
theorem und_good {l : List ND} : ∀ {f : Nat} {t : Tr} {vs : List (List Nat)} {p : Nat}, t.Good → t.deep ≤ f → Und l vs p t → ∀ i, i < t.size → ∃ u vs', u.Good ∧ Und l vs' (p + i) u ∧ u.deep ≤ f ∧ (ksR f t vs)[i]? = some (kR f u vs')
  | 0, .node k s n ks, vs, p, hg, hd, h, i, hi => by simp only [Tr.deep] at hd; omega
  | f + 1, .node k s n ks, vs, p, hg, hd, h, i, hi => by
    have hd1 := deep_one hd
    rcases i with _ | i
    · exact ⟨_, vs, hg, h, hd, by rw [ksR_succ]; rfl⟩
    · simp only [Tr.size] at hi
      rw [ksR_succ]
      simp only [List.getElem?_cons_succ]
      have key : ∀ j, j ≤ ks.length → ∀ i, i < sizeL (ks.take j) → ∃ u vs', u.Good ∧ Und l vs' (p + 1 + i) u ∧ u.deep ≤ f ∧ ((List.range j).flatMap (kidS f k s ks vs))[i]? = some (kR f u vs') := by
        intro j
        induction j with
        | zero => intro _ i hi; simp [sizeL] at hi
        | succ j ih =>
          intro hj i hi
          obtain ⟨t, ht⟩ : ∃ t, ks[j]? = some t := ⟨_, List.getElem?_eq_getElem (by omega)⟩
          have hlen := kflat_len (f := f) (k := k) (s := s) (vs := vs) hd1 j (by omega)
          rw [List.range_succ, List.flatMap_append]
          rw [sizeL_take_succ ht] at hi
          by_cases hlt : i < sizeL (ks.take j)
          · obtain ⟨u, vs', h0, h1, h2, h3⟩ := ih (by omega) i hlt
            exact ⟨u, vs', h0, h1, h2, by rw [List.getElem?_append_left (by omega)]; exact h3⟩
          · have hq := places_get (p := p + 1) (show j < ks.length by omega)
            have hk := Und.kid h ht hq
            obtain ⟨u, vs', h0, h1, h2, h3⟩ := und_good (good_at hg.2 ht) (Nat.le_trans (deep_at ht) hd1) hk (i - sizeL (ks.take j)) (by omega)
            refine ⟨u, vs', h0, ?_, h2, ?_⟩
            · rw [show p + 1 + i = p + 1 + sizeL (ks.take j) + (i - sizeL (ks.take j)) by omega]; exact h1
            · rw [List.getElem?_append_right (by omega), hlen]
              simp only [List.flatMap_cons, List.flatMap_nil, List.append_nil, kidS, ht]
              exact h3
      obtain ⟨u, vs', h0, h1, h2, h3⟩ := key ks.length (Nat.le_refl _) i (by rw [List.take_length]; omega)
      refine ⟨u, vs', h0, by rw [show p + (i + 1) = p + 1 + i by omega]; exact h1, by omega, ?_⟩
      rw [h3, kR_up f u vs' h2]
end Go.Proofs.YtidkbodmiegbkaaDoor
