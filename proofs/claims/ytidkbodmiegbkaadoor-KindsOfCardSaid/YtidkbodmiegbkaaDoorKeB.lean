/- Chapter 09: the reference's Kind. -/
import Derived.Test.YtidkbodmiegbkaaDoorKeA
import Derived.StillTailTactics
import Derived.Deep.QuietTactic
import Derived.BigQuiet
namespace Go.Proofs.YtidkbodmiegbkaaDoor
set_option linter.unusedSimpArgs false
set_option linter.unusedVariables false
open Go.RowKit

theorem info_I9 : (Tryd.prog.info? 3).map (fun i => (i.zero, i.size, i.bytes)) = some (some (.int .i64 0), 1, 8) := by kernel_rfl
/-- the boxes of the expression and of the node -/
structure CSk (W w : World) (lv : Value) (be bx : Nat) (xs : Array Value) (B : Nat) : Prop where
  bel : Below W.heap.size W w
  eb : Blk w be 24 #[lv]
  xb : Blk w bx 46 xs
  he : W.heap.size ≤ be
  hx : W.heap.size ≤ bx
  le : be < B
  lx : bx < B
  lB : B ≤ w.heap.size
section
variable {W w w' : World} {lv : Value} {be bx : Nat} {xs : Array Value} {B : Nat}
theorem CSk.below (h : CSk W w lv be bx xs B) {C : Nat} (hb : Below C w w') (hC : B ≤ C) : CSk W w' lv be bx xs B :=
  ⟨h.bel.trans (hb.mono (by have := h.he; have := h.le; omega)), h.eb.below hb (by have := h.le; omega), h.xb.below hb (by have := h.lx; omega), h.he, h.hx, h.le, h.lx, Nat.le_trans h.lB hb.size⟩
theorem CSk.call (h : CSk W w lv be bx xs B) (hb : Below w.heap.size w w') : CSk W w' lv be bx xs B := h.below hb h.lB
theorem CSk.alloc (h : CSk W w lv be bx xs B) (o : Obj) : CSk W (w.alloc o) lv be bx xs B := h.below ((Below.refl w.heap.size w).alloc (Nat.le_refl _) o) h.lB
theorem CSk.drew (h : CSk W w lv be bx xs B) : CSk W w.drew lv be bx xs B := h.below ((Below.refl w.heap.size w).drew) h.lB
theorem CSk.drewN (h : CSk W w lv be bx xs B) (n : Nat) : CSk W (w.drewN n) lv be bx xs B := h.below (below_drewN (Below.refl w.heap.size w) n) h.lB
theorem CSk.grown {α : Type} {e : TypeId} {size : Nat} {R : List Value → α → Prop} (h : CSk W w lv be bx xs B) {v : Value} {o : List α} (ho : Own1 w B e size R v o) (hgr : w.grownBy w' v.ownBlock) : CSk W w' lv be bx xs B :=
  h.below ((Below.refl B w).grown hgr h.lB (fun b hb => (ho.block b hb).1)) (Nat.le_refl _)
end
theorem CSk.make {W W1 w2 : World} {lv : Value} {xs : Array Value} (h1 : W1 = W.alloc (.cells #[lv] 24)) (hb : Below (W1.alloc (.cells xs 46)).heap.size (W1.alloc (.cells xs 46)) w2) : CSk W w2 lv W.heap.size W1.heap.size xs w2.heap.size := by
  subst h1
  have h2 := hb.size
  simp only [World.size_alloc] at h2 hb
  refine ⟨(((Below.refl W.heap.size W).alloc (Nat.le_refl _) _).alloc (by simp) _).trans (hb.mono (by omega)), (((Blk.new W 24 #[lv]).alloc _).below hb (by omega)), ((Blk.new_ (w := W.alloc (.cells #[lv] 24)) rfl 46 xs).below hb (by simp)), Nat.le_refl _, by simp, by omega, by simp; omega, Nat.le_refl _⟩
theorem kid_readR {W0 : World} {p B : Nat} {ks : List Tr} {ka : Option Addr} {kn kc : Nat} (hkv : SlR W0 B 1 IsI (.slice ka kn kc) ((placesL ks p).map fun n : Nat => (n : Int))) {j q : Nat} (hq : (placesL ks p)[j]? = some q) : ∃ kbk ko, ka = some ⟨kbk, ko, none⟩ ∧ ∀ w, Below B W0 w → w.cell? ⟨kbk, ko + j, none⟩ = some (.int .i64 (q : Int)) := by
  have hq' : ((placesL ks p).map fun n : Nat => (n : Int))[j]? = some (q : Int) := by rw [List.getElem?_map, hq]; rfl
  obtain ⟨b, off, x, e1, hbB, hxl, rfl, hx⟩ := hkv.at_ hq'
  subst e1
  exact ⟨b, off, rfl, fun w hb => rkid_cell hkv hq hb⟩
/-- what is known ahead of a node -/
structure RKPre (l : List ND) (lv : Value) (W0 : World) (f : Nat) (t : Tr) (p : Nat) (vs : List (List Nat)) (W : World) : Prop where
  hs : SlR W0 W0.heap.size 4 (ND.Is W0 W0.heap.size) lv l
  hok : ∀ d ∈ l, NdOk d
  hl : l.length ≤ 256
  good : t.Good
  deep : t.deep ≤ f
  un : Und l vs p t
  hw : Below W0.heap.size W0 W
theorem RKPre.kid {l : List ND} {lv : Value} {W0 : World} {f k : Nat} {s : List Nat} {n : Int} {ks : List Tr} {p : Nat} {vs : List (List Nat)} {W : World} (H : RKPre l lv W0 (f + 1) (.node k s n ks) p vs W) {j q : Nat} {t : Tr} (ht : ks[j]? = some t) (hq : (placesL ks (p + 1))[j]? = some q) {w' : World} (hb : Below W.heap.size W w') : RKPre l lv W0 f t q (vsK k s vs j) w' :=
  ⟨H.hs, H.hok, H.hl, good_at H.good.2 ht, Nat.le_trans (deep_at ht) (deep_one H.deep), Und.kid H.un ht hq, H.hw.trans (hb.mono H.hw.size)⟩
def RKindIs (l : List ND) (lv : Value) (W0 : World) (f : Nat) : Prop := ∀ (t : Tr) (p : Nat) (vs : List (List Nat)) (W : World), RKPre l lv W0 f t p vs W →
  Calls Tryd.prog 18 #[.agg #[lv], .int .i64 (p : Int)] W fun e w' => e = .returned (.int .i64 (kR f t vs)) ∧ Below W.heap.size W w'
theorem int_ok {x : Int} (h : 0 ≤ x ∧ x ≤ 5) : -9223372036854775808 ≤ x ∧ x ≤ 9223372036854775807 := by omega

set_option maxRecDepth 100000 in
set_option maxHeartbeats 8000000 in
theorem rkindK_step {l : List ND} {lv : Value} {W0 : World} {f : Nat} (ih : RKindIs l lv W0 f) : RKindIs l lv W0 (f + 1) := by
  intro t p vs W H
  obtain ⟨k, s, n, ks⟩ := t
  obtain ⟨hd, hks⟩ := stands_node H.un.stands
  obtain ⟨la, lc, rfl, _, _⟩ := H.hs.form
  have hpl := (List.getElem?_eq_some_iff.1 hd).1
  obtain ⟨nl, hnl⟩ : ∃ z, l.length = z := ⟨_, rfl⟩
  have hok := H.hok _ (List.mem_iff_getElem?.2 ⟨p, hd⟩)
  rw [hnl] at H hpl ih ⊢

  have hB6 := H.hw.alloc H.hw.size (.cells #[.slice la nl lc] 24)
  obtain ⟨b, off, x, rfl, hbB, hxl, ⟨kv, rfl, hkv⟩, hx⟩ := (H.hs.below hB6).at_ hd
  obtain ⟨ka, kc, rfl, _, _⟩ := hkv.form
  simp only [List.length_map, places_len] at hkv hx
  have x0 := hx 0 _ rfl
  have x1 := hx 1 _ rfl
  have x2 := hx 2 _ rfl
  have x3 := hx 3 _ rfl
  simp only [Nat.add_zero] at x0
  have p0 : (0 : Int) ≤ (p : Int) := Int.natCast_nonneg _
  have p1 : (p : Int) < (nl : Int) := by omega
  have HH := Lib.hid H
  have HNL := Lib.hid hnl
  have HKV := Lib.hid hkv
  have IH := Lib.hid ih
  have HNM := Lib.hid hok
  have HSH := Lib.hid H.good.1.1
  have hks3 : ks.length ≤ 3 := by rcases shape_cases HSH.out with ⟨h, _⟩ | ⟨_, h, _⟩ | ⟨_, _, h, _⟩ | ⟨_, _, _, h, _⟩ <;> rw [h] <;> simp
  have HDL := Lib.hid (deep_one H.deep)
  clear H hd hkv hx hxl hks hnl ih hok hB6
  go_enter Tryd.func18, Tryd.ntmps18
  go_upto_region 1 with fail
  have BE0 : Hid (Blk (W.alloc (.cells #[(.slice (some ⟨b, off, none⟩) nl lc)] 24)) W.heap.size 24 #[(.slice (some ⟨b, off, none⟩) nl lc)]) := Lib.hid (Blk.new _ _ _)
  have e0 : (W.alloc (.cells #[(.slice (some ⟨b, off, none⟩) nl lc)] 24)).cell? ⟨W.heap.size, 0, none⟩ = some (.slice (some ⟨b, off, none⟩) nl lc) := BE0.out.cell rfl
  have lw0 : W.heap.size < (W.alloc (.cells #[(.slice (some ⟨b, off, none⟩) nl lc)] 24)).heap.size := BE0.out.lt
  generalize hW1 : W.alloc (.cells #[(.slice (some ⟨b, off, none⟩) nl lc)] 24) = W1 at *
  have HW1 := Lib.hid hW1
  clear hW1
  go_upto_region 3 with fail
  have CS := Lib.hid (CSk.make HW1.out.symm (Below.refl _ _) : CSk W (W1.alloc (.cells #[.int .i64 (k : Int), .string (txt s), .int .i64 n, .slice ka ks.length kc] 46)) (.slice (some ⟨b, off, none⟩) nl lc) W.heap.size W1.heap.size #[.int .i64 (k : Int), .string (txt s), .int .i64 n, .slice ka ks.length kc] (W1.alloc (.cells #[.int .i64 (k : Int), .string (txt s), .int .i64 n, .slice ka ks.length kc] 46)).heap.size)
  generalize hW3 : W1.alloc (.cells #[.int .i64 (k : Int), .string (txt s), .int .i64 n, .slice ka ks.length kc] 46) = W3 at *
  obtain ⟨be, hbe⟩ : ∃ z, W.heap.size = z := ⟨_, rfl⟩
  obtain ⟨bn, hbn⟩ : ∃ z, W1.heap.size = z := ⟨_, rfl⟩
  obtain ⟨B, hB⟩ : ∃ z, W3.heap.size = z := ⟨_, rfl⟩
  rw [hbe, hbn, hB] at CS
  first | rw [hbe, hbn] | rw [hbn, hbe]
  clear x0 x1 x2 x3 e0 lw0 HW1 hW3 BE0 hbe hbn
  have hB3 : B ≤ W3.heap.size := by rw [hB]; exact Nat.le_refl _
  clear hB
  have e0 : (W3).cell? ⟨be, 0, none⟩ = some (.slice (some ⟨b, off, none⟩) nl lc) := CS.out.eb.cell rfl
  have n0 : (W3).cell? ⟨bn, 0, none⟩ = some (.int .i64 (k : Int)) := CS.out.xb.cell rfl
  have n1 : (W3).cell? ⟨bn, 1, none⟩ = some (.string (txt s)) := CS.out.xb.cell rfl
  have n3 : (W3).cell? ⟨bn, 3, none⟩ = some (.slice ka ks.length kc) := CS.out.xb.cell rfl
  have le : be < (W3).heap.size := Nat.lt_of_lt_of_le CS.out.le CS.out.lB
  have ln : bn < (W3).heap.size := Nat.lt_of_lt_of_le CS.out.lx CS.out.lB
  obtain ⟨jI, hi, hz, hsz, hby⟩ := info_parts info_I9
  have I := Lib.hid (And.intro hi (And.intro hz (And.intro hsz hby)))
  clear hi hz hsz hby
  go_wp2_with fail
  go_loopw [6, 7] (fun v6 v7 wr => ∃ i : Nat, i ≤ ks.length ∧ v7 = .int .i64 (i : Int) ∧ Hid (Own1 wr B 3 1 IsI v6 (ofK f k s ks vs i) ∧ (ofK f k s ks vs i).any (fun x => decide (x = 0)) = false ∧ CSk W wr (.slice (some ⟨b, off, none⟩) nl lc) be bn #[.int .i64 (k : Int), .string (txt s), .int .i64 n, .slice ka ks.length kc] B)) (fun _ v7 _ => ks.length - (intOf v7).toNat)
  case atStart => exact ⟨0, Nat.zero_le _, rfl, Lib.hid ⟨⟨[], ⟨rfl, .inl ⟨rfl, rfl⟩⟩, FlatR.nil_⟩, rfl, CS.out⟩⟩
  case round =>
    obtain ⟨i, hi, rfl, hr⟩ := hrel
    have CS4 := Lib.hid hr.out.2.2
    have HA := Lib.hid hr.out.2.1
    have hown := hr.out.1
    clear hr CS
    clear e0 n0 n1 n3 le ln
    have e0 : (wr).cell? ⟨be, 0, none⟩ = some (.slice (some ⟨b, off, none⟩) nl lc) := CS4.out.eb.cell rfl
    have n0 : (wr).cell? ⟨bn, 0, none⟩ = some (.int .i64 (k : Int)) := CS4.out.xb.cell rfl
    have n1 : (wr).cell? ⟨bn, 1, none⟩ = some (.string (txt s)) := CS4.out.xb.cell rfl
    have n3 : (wr).cell? ⟨bn, 3, none⟩ = some (.slice ka ks.length kc) := CS4.out.xb.cell rfl
    have le : be < (wr).heap.size := Nat.lt_of_lt_of_le CS4.out.le CS4.out.lB
    have ln : bn < (wr).heap.size := Nat.lt_of_lt_of_le CS4.out.lx CS4.out.lB
    obtain ⟨oa, oc, rfl⟩ := hown.form
    rw [ofK_len] at hown ⊢
    have RO := Lib.hid hown
    clear hown
    by_cases hlt : i < ks.length
    · obtain ⟨t, ht⟩ : ∃ t, ks[i]? = some t := ⟨_, List.getElem?_eq_getElem hlt⟩
      obtain ⟨q, hq⟩ : ∃ q, (placesL ks (p + 1))[i]? = some q := ⟨_, places_get hlt⟩
      obtain ⟨kbk, ko, rfl, hkc⟩ := kid_readR HKV.out hq
      have xk := hkc wr (HH.out.hw.trans (CS4.out.bel.mono HH.out.hw.size))
      have hkk : kidK f k s ks vs i = kR f t (vsK k s vs i) := by unfold kidK; rw [ht]
      obtain ⟨x, hx⟩ : ∃ z, kidK f k s ks vs i = z := ⟨_, rfl⟩
      have hxr : 0 ≤ x ∧ x ≤ 5 := by rw [← hx, hkk]; exact kR_rng _ _ _
      have PK : Hid (∀ w', Below W.heap.size W w' → Calls Tryd.prog 18 #[.agg #[(.slice (some ⟨b, off, none⟩) nl lc)], .int .i64 (q : Int)] w' fun e w'' => e = .returned (.int .i64 x) ∧ Below w'.heap.size w' w'') := Lib.hid (fun w' hb => by rw [← hx, hkk]; exact IH.out t q _ w' (RKPre.kid HH.out ht hq hb))
      have hof : ofK f k s ks vs (i + 1) = ofK f k s ks vs i ++ [x] := by rw [ofK_succ, hx]
      have HOF := Lib.hid hof
      have HXR := Lib.hid hxr
      have HTQ := Lib.hid (And.intro ht hx)
      have i0 : (0 : Int) ≤ (i : Int) := Int.natCast_nonneg _
      have i1 : (i : Int) < (ks.length : Int) := by omega
      have i3 : i ≤ 3 := by omega
      clear ht hq hkc hkk hx hxr hof
      go_upto_region 6 with fail
      go_still_tail 6, (by kernel_rfl)
      change wpList _ _ _ _ _ wr.drew
      have CS5 := Lib.hid CS4.out.drew
      have RO5 := Lib.hid RO.out.drew
      generalize wr.drew = w5 at *
      clear e0 n0 n1 n3 le ln
      have e0 : (w5).cell? ⟨be, 0, none⟩ = some (.slice (some ⟨b, off, none⟩) nl lc) := CS5.out.eb.cell rfl
      have n0 : (w5).cell? ⟨bn, 0, none⟩ = some (.int .i64 (k : Int)) := CS5.out.xb.cell rfl
      have n1 : (w5).cell? ⟨bn, 1, none⟩ = some (.string (txt s)) := CS5.out.xb.cell rfl
      have n3 : (w5).cell? ⟨bn, 3, none⟩ = some (.slice (some ⟨kbk, ko, none⟩) ks.length kc) := CS5.out.xb.cell rfl
      have le : be < (w5).heap.size := Nat.lt_of_lt_of_le CS5.out.le CS5.out.lB
      have ln : bn < (w5).heap.size := Nat.lt_of_lt_of_le CS5.out.lx CS5.out.lB
      by_cases hx0 : x = 0
      · have ex : (x == 0) = true := by rw [hx0]; rfl
        have hv : kR (f + 1) (.node k s n ks) vs = 0 := by
          rw [kR_succ, if_pos]
          rw [List.any_eq_true]
          exact ⟨x, List.mem_map.2 ⟨i, List.mem_range.2 hlt, HTQ.out.2⟩, by simp [hx0]⟩
        have HV := Lib.hid hv
        clear hv hx0
        go_wp2_with (first
          | (go_at_call 18; go_must (refine (PK.out w5 CS5.out.bel).mono ?_); rintro e w6 ⟨rfl, hb⟩; go_must (have CS6 := Lib.hid (CS5.out.call hb)); clear hb)
          | fail)
        go_ret
        exact ⟨by rw [HV.out]; try rfl, CS6.out.bel⟩
      · have ex : (x == 0) = false := by simpa using hx0
        have HX0 := Lib.hid hx0
        clear hx0
        go_upto_region 9 with (first
          | (go_at_call 18; go_must (refine (PK.out w5 CS5.out.bel).mono ?_); rintro e w6 ⟨rfl, hb⟩; go_must (have CS6 := Lib.hid (CS5.out.call hb)); go_must (have RO6 := Lib.hid (RO5.out.below hb (Nat.le_refl _))); clear hb)
          | fail)
        go_wp2_with (first
          | (at_builtin
             go_must (refine wpList_append_list rfl (.tmp 30) (.tmp 32) _ (by rfl) B (w6.heap.size + 1) 3 jI _ 1 8 Tryd.underlying29 I.out.1 I.out.2.1 I.out.2.2.1 I.out.2.2.2 rfl (by omega) (R := IsI) (l := ofK f k s ks vs i) (m := [x]) (.slice oa i oc) (by rfl) (by exact RO6.out.alloc (.cells #[.int .i64 x] 3)) (some ⟨w6.heap.size, 0, none⟩) 1 1 (by rfl) (SlR.new1 (w := w6) (e := 3) (g := w6.heap.size) rfl (x := [.int .i64 x]) rfl (R := IsI) (y := x) rfl) (i + 1) (by rw [ofK_len]) IsI.one (by have := ofK_len f k s ks vs i; unfold maxLen; simp <;> omega) (by have := ofK_len f k s ks vs i; simp <;> omega) (by have := CS6.out.lB; simp; omega) ?_)
             intro a7 c7 w7 hown hgr
             go_must (have CS7 := Lib.hid ((CS6.out.alloc (.cells #[.int .i64 x] 3)).grown (RO6.out.alloc (.cells #[.int .i64 x] 3)) hgr))
             have RO7 := Lib.hid hown
             clear hown hgr)
          | fail)
        go_roundw
        case rel => exact ⟨i + 1, by omega, by go_num, Lib.hid ⟨by rw [HOF.out]; exact RO7.out, by rw [HOF.out, List.any_append, HA.out]; simp; exact HX0.out, CS7.out⟩⟩
        case measure => simp [intOf]; omega
    · have hin : i = ks.length := by omega
      have hkr : kR (f + 1) (.node k s n ks) vs = kindK k (decide (s ∈ vs)) (ofK f k s ks vs ks.length) := by rw [kR_succ, if_neg]; rw [← hin, HA.out]; decide
      have HKR := Lib.hid hkr
      clear hlt hi hkr
      rcases shape_cases HSH.out with ⟨hks0, h1, h2⟩ | ⟨ta, hks0, h1⟩ | ⟨ta, tb, hks0, h1⟩ | ⟨ta, tb, tc, hks0, h1⟩
      · subst hks0
        subst hin
        simp only [List.length_nil] at n3 ⊢
        rcases (by omega : k = 1 ∨ k = 2 ∨ k = 3 ∨ k = 4 ∨ k = 5 ∨ k = 6 ∨ k = 7) with hk | hk | hk | hk | hk | hk | hk
        · have ek1 : ((k : Int) == 1) = true := by rw [hk]; rfl
          have ek2 : ((k : Int) == 2) = false := by rw [hk]; rfl
          have ek3 : ((k : Int) == 3) = false := by rw [hk]; rfl
          have ek4 : ((k : Int) == 4) = false := by rw [hk]; rfl
          have ek5 : ((k : Int) == 5) = false := by rw [hk]; rfl
          have ek6 : ((k : Int) == 6) = false := by rw [hk]; rfl
          have ek7 : ((k : Int) == 7) = false := by rw [hk]; rfl
          have ek30 : ((k : Int) == 30) = false := by rw [hk]; rfl
          have hv : kR (f + 1) (.node k s n []) vs = 1 := by rw [HKR.out, hk]; rfl
          have HV := Lib.hid hv
          clear hv hk
          go_wp2_with fail
          go_ret
          exact ⟨by rw [HV.out]; try rfl, CS4.out.bel⟩
        · have ek1 : ((k : Int) == 1) = false := by rw [hk]; rfl
          have ek2 : ((k : Int) == 2) = true := by rw [hk]; rfl
          have ek3 : ((k : Int) == 3) = false := by rw [hk]; rfl
          have ek4 : ((k : Int) == 4) = false := by rw [hk]; rfl
          have ek5 : ((k : Int) == 5) = false := by rw [hk]; rfl
          have ek6 : ((k : Int) == 6) = false := by rw [hk]; rfl
          have ek7 : ((k : Int) == 7) = false := by rw [hk]; rfl
          have ek30 : ((k : Int) == 30) = false := by rw [hk]; rfl
          have hv : kR (f + 1) (.node k s n []) vs = 2 := by rw [HKR.out, hk]; rfl
          have HV := Lib.hid hv
          clear hv hk
          go_wp2_with fail
          go_ret
          exact ⟨by rw [HV.out]; try rfl, CS4.out.bel⟩
        · have ek1 : ((k : Int) == 1) = false := by rw [hk]; rfl
          have ek2 : ((k : Int) == 2) = false := by rw [hk]; rfl
          have ek3 : ((k : Int) == 3) = true := by rw [hk]; rfl
          have ek4 : ((k : Int) == 4) = false := by rw [hk]; rfl
          have ek5 : ((k : Int) == 5) = false := by rw [hk]; rfl
          have ek6 : ((k : Int) == 6) = false := by rw [hk]; rfl
          have ek7 : ((k : Int) == 7) = false := by rw [hk]; rfl
          have ek30 : ((k : Int) == 30) = false := by rw [hk]; rfl
          have hv : kR (f + 1) (.node k s n []) vs = 3 := by rw [HKR.out, hk]; rfl
          have HV := Lib.hid hv
          clear hv hk
          go_wp2_with fail
          go_ret
          exact ⟨by rw [HV.out]; try rfl, CS4.out.bel⟩
        · have ek1 : ((k : Int) == 1) = false := by rw [hk]; rfl
          have ek2 : ((k : Int) == 2) = false := by rw [hk]; rfl
          have ek3 : ((k : Int) == 3) = false := by rw [hk]; rfl
          have ek4 : ((k : Int) == 4) = true := by rw [hk]; rfl
          have ek5 : ((k : Int) == 5) = false := by rw [hk]; rfl
          have ek6 : ((k : Int) == 6) = false := by rw [hk]; rfl
          have ek7 : ((k : Int) == 7) = false := by rw [hk]; rfl
          have ek30 : ((k : Int) == 30) = false := by rw [hk]; rfl
          have hv : kR (f + 1) (.node k s n []) vs = 3 := by rw [HKR.out, hk]; rfl
          have HV := Lib.hid hv
          clear hv hk
          go_wp2_with fail
          go_ret
          exact ⟨by rw [HV.out]; try rfl, CS4.out.bel⟩
        · have ek1 : ((k : Int) == 1) = false := by rw [hk]; rfl
          have ek2 : ((k : Int) == 2) = false := by rw [hk]; rfl
          have ek3 : ((k : Int) == 3) = false := by rw [hk]; rfl
          have ek4 : ((k : Int) == 4) = false := by rw [hk]; rfl
          have ek5 : ((k : Int) == 5) = true := by rw [hk]; rfl
          have ek6 : ((k : Int) == 6) = false := by rw [hk]; rfl
          have ek7 : ((k : Int) == 7) = false := by rw [hk]; rfl
          have ek30 : ((k : Int) == 30) = false := by rw [hk]; rfl
          have hv : kR (f + 1) (.node k s n []) vs = 4 := by rw [HKR.out, hk]; rfl
          have HV := Lib.hid hv
          clear hv hk
          go_wp2_with fail
          go_ret
          exact ⟨by rw [HV.out]; try rfl, CS4.out.bel⟩
        · have ek1 : ((k : Int) == 1) = false := by rw [hk]; rfl
          have ek2 : ((k : Int) == 2) = false := by rw [hk]; rfl
          have ek3 : ((k : Int) == 3) = false := by rw [hk]; rfl
          have ek4 : ((k : Int) == 4) = false := by rw [hk]; rfl
          have ek5 : ((k : Int) == 5) = false := by rw [hk]; rfl
          have ek6 : ((k : Int) == 6) = true := by rw [hk]; rfl
          have ek7 : ((k : Int) == 7) = false := by rw [hk]; rfl
          have ek30 : ((k : Int) == 30) = false := by rw [hk]; rfl
          have hv : kR (f + 1) (.node k s n []) vs = 4 := by rw [HKR.out, hk]; rfl
          have HV := Lib.hid hv
          clear hv hk
          go_wp2_with fail
          go_ret
          exact ⟨by rw [HV.out]; try rfl, CS4.out.bel⟩
        · have ek1 : ((k : Int) == 1) = false := by rw [hk]; rfl
          have ek2 : ((k : Int) == 2) = false := by rw [hk]; rfl
          have ek3 : ((k : Int) == 3) = false := by rw [hk]; rfl
          have ek4 : ((k : Int) == 4) = false := by rw [hk]; rfl
          have ek5 : ((k : Int) == 5) = false := by rw [hk]; rfl
          have ek6 : ((k : Int) == 6) = false := by rw [hk]; rfl
          have ek7 : ((k : Int) == 7) = true := by rw [hk]; rfl
          have ek30 : ((k : Int) == 30) = false := by rw [hk]; rfl
          have hv : kR (f + 1) (.node k s n []) vs = if decide (s ∈ vs) = true then 4 else 0 := by rw [HKR.out, hk]; rfl
          have BB := Lib.hid (bound_any wr W0 HH.out.hs HH.out.hok HH.out.hl (HH.out.hw.trans (CS4.out.bel.mono HH.out.hw.size)) HH.out.un s HNM.out.1)
          obtain ⟨bb, hbb⟩ : ∃ z, decide (s ∈ vs) = z := ⟨_, rfl⟩
          rw [hbb] at BB hv
          have HV := Lib.hid hv
          clear hv hk hbb
          cases bb
          all_goals
            go_wp2_with (first
              | (go_at_call 20; go_must (refine BB.out.mono ?_); rintro e w5 ⟨rfl, hb⟩; go_must (have CS5 := Lib.hid (CS4.out.call hb)); clear hb)
              | fail)
            go_ret
            exact ⟨by rw [HV.out]; try rfl, CS5.out.bel⟩
      · subst hks0
        subst hin
        simp only [List.length_cons, List.length_nil, Nat.zero_add, Nat.reduceAdd] at n3 ⊢
        obtain ⟨a0, ha0⟩ : ∃ z, kidK f k s [ta] vs 0 = z := ⟨_, rfl⟩
        have hof : ofK f k s [ta] vs 1 = [a0] := by rw [← ha0]; rfl
        have RO1 : Own1 wr B 3 1 IsI (.slice oa 1 oc) [a0] := by rw [← hof]; exact RO.out
        have hrd := RO1.read (by decide)
        obtain ⟨rb, ro, z, rfl, hz, hzl, hzi, hzx⟩ := hrd.at_ (k := 0) (y := a0) rfl
        have r0 : wr.cell? ⟨rb, ro, none⟩ = some (.int .i64 a0) := by
          obtain ⟨rb', ro', z', e', hz', hzl', hzi', hzx'⟩ := hrd.at_ (k := 0) (y := a0) rfl
          injection e' with e'
          injection e' with e1 e2
          subst e1 e2
          rw [hzi'] at hzx'
          have := hzx' 0 _ rfl
          simpa using this
        have ek1 : ((k : Int) == 1) = false := by rw [beq_eq_false_iff_ne]; omega
        have ek2 : ((k : Int) == 2) = false := by rw [beq_eq_false_iff_ne]; omega
        have ek3 : ((k : Int) == 3) = false := by rw [beq_eq_false_iff_ne]; omega
        have ek4 : ((k : Int) == 4) = false := by rw [beq_eq_false_iff_ne]; omega
        have ek5 : ((k : Int) == 5) = false := by rw [beq_eq_false_iff_ne]; omega
        have ek6 : ((k : Int) == 6) = false := by rw [beq_eq_false_iff_ne]; omega
        have ek7 : ((k : Int) == 7) = false := by rw [beq_eq_false_iff_ne]; omega
        have ek30 : ((k : Int) == 30) = false := by rw [beq_eq_false_iff_ne]; omega
        have hv : kR (f + 1) (.node k s n [ta]) vs = oneK k a0 := by
          rw [HKR.out]
          show kindK k _ (ofK f k s [ta] vs 1) = _
          rw [hof]
          unfold kindK
          rw [if_neg (by omega), if_neg (by omega), if_neg (by omega), if_neg (by omega), if_neg (by omega), if_neg (by omega)]
          rfl
        have HV := Lib.hid hv
        have ON := Lib.hid (fun w' => one_any a0 w' h1)
        clear hv hof RO1 hrd hz hzl hzi hzx ha0 h1
        go_upto_region 27 with fail
        go_still_tail 5, (by kernel_rfl)
        change wpList _ _ _ _ _ wr.drew
        have CS5 := Lib.hid CS4.out.drew
        generalize wr.drew = w5 at *
        go_wp2_with (first
          | (go_at_call 24; go_must (refine (ON.out _).mono ?_); rintro e w6 ⟨rfl, rfl⟩)
          | fail)
        go_ret
        exact ⟨by rw [HV.out]; try rfl, CS5.out.bel⟩
      · subst hks0
        subst hin
        simp only [List.length_cons, List.length_nil, Nat.zero_add, Nat.reduceAdd] at n3 ⊢
        obtain ⟨a0, ha0⟩ : ∃ z, kidK f k s [ta, tb] vs 0 = z := ⟨_, rfl⟩
        obtain ⟨a1, ha1⟩ : ∃ z, kidK f k s [ta, tb] vs 1 = z := ⟨_, rfl⟩
        have hof : ofK f k s [ta, tb] vs 2 = [a0, a1] := by rw [← ha0, ← ha1]; rfl
        have RO1 : Own1 wr B 3 1 IsI (.slice oa 2 oc) [a0, a1] := by rw [← hof]; exact RO.out
        have hrd := RO1.read (by decide)
        obtain ⟨rb, ro, z, rfl, hz, hzl, hzi, hzx⟩ := hrd.at_ (k := 0) (y := a0) rfl
        have r0 : wr.cell? ⟨rb, ro, none⟩ = some (.int .i64 a0) := by
          obtain ⟨rb', ro', z', e', hz', hzl', hzi', hzx'⟩ := hrd.at_ (k := 0) (y := a0) rfl
          injection e' with e'
          injection e' with e1 e2
          subst e1 e2
          rw [hzi'] at hzx'
          have := hzx' 0 _ rfl
          simpa using this
        have r1 : wr.cell? ⟨rb, ro + 1, none⟩ = some (.int .i64 a1) := by
          obtain ⟨rb', ro', z', e', hz', hzl', hzi', hzx'⟩ := hrd.at_ (k := 1) (y := a1) rfl
          injection e' with e'
          injection e' with e1 e2
          subst e1 e2
          rw [hzi'] at hzx'
          have := hzx' 0 _ rfl
          simpa using this
        have ek1 : ((k : Int) == 1) = false := by rw [beq_eq_false_iff_ne]; omega
        have ek2 : ((k : Int) == 2) = false := by rw [beq_eq_false_iff_ne]; omega
        have ek3 : ((k : Int) == 3) = false := by rw [beq_eq_false_iff_ne]; omega
        have ek4 : ((k : Int) == 4) = false := by rw [beq_eq_false_iff_ne]; omega
        have ek5 : ((k : Int) == 5) = false := by rw [beq_eq_false_iff_ne]; omega
        have ek6 : ((k : Int) == 6) = false := by rw [beq_eq_false_iff_ne]; omega
        have ek7 : ((k : Int) == 7) = false := by rw [beq_eq_false_iff_ne]; omega
        have ek30 : ((k : Int) == 30) = false := by rw [beq_eq_false_iff_ne]; omega
        have hv : kR (f + 1) (.node k s n [ta, tb]) vs = twoK k a0 a1 := by
          rw [HKR.out]
          show kindK k _ (ofK f k s [ta, tb] vs 2) = _
          rw [hof]
          unfold kindK
          rw [if_neg (by omega), if_neg (by omega), if_neg (by omega), if_neg (by omega), if_neg (by omega), if_neg (by omega)]
          rfl
        have HV := Lib.hid hv
        have ON := Lib.hid (fun w' => two_any a0 a1 w' h1)
        clear hv hof RO1 hrd hz hzl hzi hzx ha0 ha1 h1
        go_upto_region 28 with fail
        go_still_tail 8, (by kernel_rfl)
        change wpList _ _ _ _ _ wr.drew
        have CS5 := Lib.hid CS4.out.drew
        generalize wr.drew = w5 at *
        go_wp2_with (first
          | (go_at_call 25; go_must (refine (ON.out _).mono ?_); rintro e w6 ⟨rfl, rfl⟩)
          | fail)
        go_ret
        exact ⟨by rw [HV.out]; try rfl, CS5.out.bel⟩
      · subst hks0
        subst hin
        simp only [List.length_cons, List.length_nil, Nat.zero_add, Nat.reduceAdd] at n3 ⊢
        obtain ⟨a0, ha0⟩ : ∃ z, kidK f k s [ta, tb, tc] vs 0 = z := ⟨_, rfl⟩
        obtain ⟨a1, ha1⟩ : ∃ z, kidK f k s [ta, tb, tc] vs 1 = z := ⟨_, rfl⟩
        obtain ⟨a2, ha2⟩ : ∃ z, kidK f k s [ta, tb, tc] vs 2 = z := ⟨_, rfl⟩
        have hof : ofK f k s [ta, tb, tc] vs 3 = [a0, a1, a2] := by rw [← ha0, ← ha1, ← ha2]; rfl
        have RO1 : Own1 wr B 3 1 IsI (.slice oa 3 oc) [a0, a1, a2] := by rw [← hof]; exact RO.out
        have hrd := RO1.read (by decide)
        obtain ⟨rb, ro, z, rfl, hz, hzl, hzi, hzx⟩ := hrd.at_ (k := 0) (y := a0) rfl
        have r0 : wr.cell? ⟨rb, ro, none⟩ = some (.int .i64 a0) := by
          obtain ⟨rb', ro', z', e', hz', hzl', hzi', hzx'⟩ := hrd.at_ (k := 0) (y := a0) rfl
          injection e' with e'
          injection e' with e1 e2
          subst e1 e2
          rw [hzi'] at hzx'
          have := hzx' 0 _ rfl
          simpa using this
        have r1 : wr.cell? ⟨rb, ro + 1, none⟩ = some (.int .i64 a1) := by
          obtain ⟨rb', ro', z', e', hz', hzl', hzi', hzx'⟩ := hrd.at_ (k := 1) (y := a1) rfl
          injection e' with e'
          injection e' with e1 e2
          subst e1 e2
          rw [hzi'] at hzx'
          have := hzx' 0 _ rfl
          simpa using this
        have r2 : wr.cell? ⟨rb, ro + 2, none⟩ = some (.int .i64 a2) := by
          obtain ⟨rb', ro', z', e', hz', hzl', hzi', hzx'⟩ := hrd.at_ (k := 2) (y := a2) rfl
          injection e' with e'
          injection e' with e1 e2
          subst e1 e2
          rw [hzi'] at hzx'
          have := hzx' 0 _ rfl
          simpa using this
        have ek1 : ((k : Int) == 1) = false := by rw [h1]; rfl
        have ek2 : ((k : Int) == 2) = false := by rw [h1]; rfl
        have ek3 : ((k : Int) == 3) = false := by rw [h1]; rfl
        have ek4 : ((k : Int) == 4) = false := by rw [h1]; rfl
        have ek5 : ((k : Int) == 5) = false := by rw [h1]; rfl
        have ek6 : ((k : Int) == 6) = false := by rw [h1]; rfl
        have ek7 : ((k : Int) == 7) = false := by rw [h1]; rfl
        have ek30 : ((k : Int) == 30) = true := by rw [h1]; rfl
        have hv : kR (f + 1) (.node k s n [ta, tb, tc]) vs = if a0 = 3 ∧ a1 = a2 then a1 else 0 := by
          rw [HKR.out]
          show kindK k _ (ofK f k s [ta, tb, tc] vs 3) = _
          rw [hof, h1]
          rfl
        clear hof RO1 hrd hz hzl hzi hzx ha0 ha1 ha2 h1
        by_cases h3 : a0 = 3
        · have x3 : (a0 == 3) = true := by rw [h3]; rfl
          by_cases h12 : a1 = a2
          · rw [if_pos ⟨h3, h12⟩] at hv
            have x12 : (a1 == a2) = true := by rw [h12]; simp
            have HV := Lib.hid hv
            clear hv h3 h12
            go_upto_region 23 with fail
            go_quiet (fail)
            have CS5 := Lib.hid (CS4.out.drewN nq)
            go_wp2_with fail
            go_ret
            exact ⟨by rw [HV.out]; try rfl, CS5.out.bel⟩
          · rw [if_neg (fun h => h12 h.2)] at hv
            have x12 : (a1 == a2) = false := by simpa using h12
            have HV := Lib.hid hv
            clear hv h3 h12
            go_upto_region 23 with fail
            go_quiet (fail)
            have CS5 := Lib.hid (CS4.out.drewN nq)
            go_wp2_with fail
            go_ret
            exact ⟨by rw [HV.out]; try rfl, CS5.out.bel⟩
        · rw [if_neg (fun h => h3 h.1)] at hv
          have x3 : (a0 == 3) = false := by simpa using h3
          have HV := Lib.hid hv
          clear hv h3
          go_upto_region 23 with fail
          go_quiet (fail)
          have CS5 := Lib.hid (CS4.out.drewN nq)
          go_wp2_with fail
          go_ret
          exact ⟨by rw [HV.out]; try rfl, CS5.out.bel⟩
end Go.Proofs.YtidkbodmiegbkaaDoor
