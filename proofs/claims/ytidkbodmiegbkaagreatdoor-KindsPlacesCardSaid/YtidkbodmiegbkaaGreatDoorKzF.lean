/- Chapter 09, outright: the law KindsOne, walked. -/
import Derived.Test.YtidkbodmiegbkaaGreatDoorKzE
import Derived.Deep.CutRange
import Derived.Deep.CutBlock
namespace Go.Proofs.YtidkbodmiegbkaaGreatDoor
set_option linter.unusedSimpArgs false
set_option linter.unusedVariables false
open Go.RowKit

set_option maxRecDepth 100000 in
set_option maxHeartbeats 8000000 in
theorem one_bad {l : List ND} {v : Value} (w : World) (hs : SlR w w.heap.size 4 (ND.Is w w.heap.size) v l) (hv : AllV w) (hok : ∀ d ∈ l, NdOk d) (hr : rightE l ≠ 0) : Calls Tryz.prog 3 #[.agg #[v]] w fun e w' => e = .returned (.bool true) ∧ Below w.heap.size w w' := by
  obtain ⟨a, c, rfl⟩ : ∃ a c, v = .slice a (l).length c := by obtain ⟨a, c, h, _⟩ := hs.form; exact ⟨a, c, h⟩
  obtain ⟨n, hn⟩ : ∃ n, (l).length = n := ⟨_, rfl⟩
  rw [hn] at hs ⊢
  have hb : Below w.heap.size w (w.alloc (.cells #[.slice a n c] 24)) := (Below.refl _ _).alloc (Nat.le_refl _) _
  have AW := Lib.hid (awake_any (w.alloc (.cells #[.slice a n c] 24)) (hv.below hb))
  have KE : Hid (Blk (w.alloc (.cells #[.slice a n c] 24)) w.heap.size 24 #[.slice a n c]) := Lib.hid (Blk.new _ _ _)
  have HB := Lib.hid hb
  have HN := Lib.hid hn
  have OB := Lib.hid (fun W (hW : Below w.heap.size w W) => of_bad W w hs hok hv.marks hv.pow hv.takes hW hr)
  obtain ⟨r, hrr⟩ : ∃ r, rightE l = r := ⟨_, rfl⟩
  rw [hrr] at OB hr
  have r0 : ((r : Int) != 0) = true := by rw [bne_iff_ne]; omega
  clear hs hok hv hn hb hrr hr
  go_enter Tryz.func3, Tryz.ntmps3
  go_wp2_with (first
    | (go_at_call 7; go_must (refine AW.out.mono ?_); rintro e w1 ⟨rfl, b1⟩
       go_must (have B1 := Lib.hid (HB.out.trans (b1.mono HB.out.size)))
       go_must (have K1 := Lib.hid (KE.out.below b1 KE.out.lt))
       have e1 : w1.cell? ⟨w.heap.size, 0, none⟩ = some (.slice a n c) := K1.out.cell rfl
       have l1 : w.heap.size < w1.heap.size := K1.out.lt
       clear b1)
    | (go_at_call 8; go_must (refine (OB.out w1 B1.out).mono ?_); rintro e w2 ⟨rfl, b2⟩; have B2 := Lib.hid (B1.out.trans (b2.mono B1.out.size)); clear b2)
    | fail)
  go_ret
  exact ⟨rfl, B2.out⟩
set_option maxRecDepth 100000 in
set_option maxHeartbeats 8000000 in
theorem one_wrong {t : Tr} {v : Value} (w : World) (hs : SlR w w.heap.size 4 (ND.Is w w.heap.size) v (ndsT t 0)) (hv : AllV w) (hg : t.Good) (hd : t.deep ≤ 32) (hsz : t.size ≤ 256) (hwr : ¬ wR 32 t [] 0 < 0) : Calls Tryz.prog 3 #[.agg #[v]] w fun e w' => e = .returned (.bool true) ∧ Below w.heap.size w w' := by
  obtain ⟨a, c, rfl⟩ : ∃ a c, v = .slice a (ndsT t 0).length c := by obtain ⟨a, c, h, _⟩ := hs.form; exact ⟨a, c, h⟩
  obtain ⟨n, hn⟩ : ∃ n, (ndsT t 0).length = n := ⟨_, rfl⟩
  rw [hn] at hs ⊢
  have hb : Below w.heap.size w (w.alloc (.cells #[.slice a n c] 24)) := (Below.refl _ _).alloc (Nat.le_refl _) _
  have AW := Lib.hid (awake_any (w.alloc (.cells #[.slice a n c] 24)) (hv.below hb))
  have KE : Hid (Blk (w.alloc (.cells #[.slice a n c] 24)) w.heap.size 24 #[.slice a n c]) := Lib.hid (Blk.new _ _ _)
  have HB := Lib.hid hb
  have HN := Lib.hid hn
  have OB := Lib.hid (fun W (hW : Below w.heap.size w W) => of_t (W := W) ⟨hs, hv, hW, hg, hd, hsz⟩)
  have hk : kindT t = 0 := by unfold kindT; rw [if_neg hwr]
  have r0 := err_ne (l := ndsT t 0) hwr
  rw [hk] at OB
  obtain ⟨r, hrr⟩ : ∃ r, errN (ndsT t 0) t = r := ⟨_, rfl⟩
  obtain ⟨z, hz⟩ : ∃ r, atN t = r := ⟨_, rfl⟩
  rw [hrr] at r0
  rw [hrr, hz] at OB
  clear hs hv hn hb hrr hg hd hsz hwr hk hz
  go_enter Tryz.func3, Tryz.ntmps3
  go_wp2_with (first
    | (go_at_call 7; go_must (refine AW.out.mono ?_); rintro e w1 ⟨rfl, b1⟩
       go_must (have B1 := Lib.hid (HB.out.trans (b1.mono HB.out.size)))
       go_must (have K1 := Lib.hid (KE.out.below b1 KE.out.lt))
       have e1 : w1.cell? ⟨w.heap.size, 0, none⟩ = some (.slice a n c) := K1.out.cell rfl
       have l1 : w.heap.size < w1.heap.size := K1.out.lt
       clear b1)
    | (go_at_call 8; go_must (refine (OB.out w1 B1.out).mono ?_); rintro e w2 ⟨rfl, b2⟩; have B2 := Lib.hid (B1.out.trans (b2.mono B1.out.size)); clear b2)
    | fail)
  go_ret
  exact ⟨rfl, B2.out⟩
theorem NL.drw {X : World} {B : Nat} {v : Value} {es : List (ND × Value)} (h : NL X B v es) : NL X.drew B v es := ⟨h.main.drew, fun i p hp => (h.kids i p hp).drew⟩
def askL : List Nat := [16, 19, 29, 17, 14]
theorem ask_at {i : Nat} (hi : i < 5) : ∃ x, askL[i]? = some x ∧ (#[.int .i64 16, .int .i64 19, .int .i64 29, .int .i64 17, .int .i64 14] : Array Value)[i]? = some (.int .i64 (x : Int)) ∧ (x = 16 ∨ x = 19 ∨ x = 29 ∨ x = 17 ∨ x = 14) := by
  rcases (by omega : i = 0 ∨ i = 1 ∨ i = 2 ∨ i = 3 ∨ i = 4) with rfl | rfl | rfl | rfl | rfl
  · exact ⟨16, rfl, rfl, by omega⟩
  · exact ⟨19, rfl, rfl, by omega⟩
  · exact ⟨29, rfl, rfl, by omega⟩
  · exact ⟨17, rfl, rfl, by omega⟩
  · exact ⟨14, rfl, rfl, by omega⟩
theorem ask_one {i x : Nat} {k : Int} (hi : i < 5) (hx : askL[i]? = some x) (h1 : 1 ≤ k) (h2 : k ≤ 5) : oneK x k ≠ 0 ↔ (i : Int) + 1 = k := by
  have key : ∀ i ∈ [0, 1, 2, 3, 4], ∀ k ∈ [(1 : Int), 2, 3, 4, 5], (oneK (askL.getD i 0) k ≠ 0 ↔ ((i : Nat) : Int) + 1 = k) := by decide +kernel
  have h := key i (by simp; omega) k (by simpa using five h1 h2)
  rw [List.getD_eq_getElem?_getD, hx] at h
  exact h
theorem kids_fewT {t : Tr} (hg : t.Good) (hsz : t.size ≤ 256) : ∀ d ∈ ndsT t 0, d.kids.length ≤ 3 ∧ ∀ x ∈ d.kids, 0 ≤ x ∧ x ≤ 256 := by
  intro d hd
  obtain ⟨i, hi⟩ := List.mem_iff_getElem?.1 hd
  have hl := (List.getElem?_eq_some_iff.1 hi).1
  rw [nds_len] at hl
  have hst := stands_nds t
  obtain ⟨u, vs', hgu, hu, hdu, _⟩ := und_free (f := t.deep) hg (Nat.le_refl _) (Und.root hst (nds_len t 0)) i hl
  rw [Nat.zero_add] at hu
  obtain ⟨k, s, m, ks⟩ := u
  have h1 := (stands_node hu.stands).1
  rw [hi] at h1
  injection h1 with h1
  subst h1
  simp only
  constructor
  · rw [List.length_map, places_len]
    rcases shape_cases hgu.1.1 with ⟨rfl, _⟩ | ⟨a, rfl, _⟩ | ⟨a, b, rfl, _⟩ | ⟨a, b, c, rfl, _⟩ <;> simp
  · intro x hx
    have h2 := stands_kids t 0 hst i _ (Nat.zero_le _) (by omega) hi x hx
    obtain ⟨y, hy, rfl⟩ := List.mem_map.1 hx
    have h3 := places_in ks _ y hy
    have h4 := hu.stands
    have h5 : i + (Tr.node k s m ks).size ≤ t.size := by
      have := congrArg List.length h4
      rw [List.length_take, List.length_drop, nds_len, nds_len] at this
      have hp : 1 ≤ (Tr.node k s m ks).size := by simp only [Tr.size]; omega
      omega
    simp only [Tr.size] at h5
    omega

set_option maxRecDepth 100000 in
set_option maxHeartbeats 16000000 in
theorem one_ok {t : Tr} {v : Value} (w : World) (hs : SlR w w.heap.size 4 (ND.Is w w.heap.size) v (ndsT t 0)) (hv : AllV w) (hg : t.Good) (hd : t.deep ≤ 32) (hsz : t.size ≤ 256) (hwr : wR 32 t [] 0 < 0) : Calls Tryz.prog 3 #[.agg #[v]] w fun e w' => e = .returned (.bool true) ∧ Below w.heap.size w w' := by
  obtain ⟨a, c, rfl⟩ : ∃ a c, v = .slice a (ndsT t 0).length c := by obtain ⟨a, c, h, _⟩ := hs.form; exact ⟨a, c, h⟩
  obtain ⟨n, hn⟩ : ∃ n, (ndsT t 0).length = n := ⟨_, rfl⟩
  rw [hn] at hs ⊢
  have hb : Below w.heap.size w (w.alloc (.cells #[.slice a n c] 24)) := (Below.refl _ _).alloc (Nat.le_refl _) _
  have AW := Lib.hid (awake_any (w.alloc (.cells #[.slice a n c] 24)) (hv.below hb))
  have KE : Hid (Blk (w.alloc (.cells #[.slice a n c] 24)) w.heap.size 24 #[.slice a n c]) := Lib.hid (Blk.new _ _ _)
  have HB := Lib.hid hb
  have HN := Lib.hid hn
  have OB := Lib.hid (fun W (hW : Below w.heap.size w W) => of_t (W := W) ⟨hs, hv, hW, hg, hd, hsz⟩)
  have CL := Lib.hid (fun W (hW : Below w.heap.size w W) => closed_t (W := W) ⟨hs, hv, hW, hg, hd, hsz⟩)
  have hfr : frR 32 t [] [] = [] := wR_free [] hd hwr
  rw [show decide (frR 32 t [] [] = []) = true by rw [hfr]; rfl] at CL
  have hk : kindT t = kR 32 t [] := by unfold kindT; rw [if_pos hwr]
  have ha : atN t = 0 := by unfold atN; rw [if_pos hwr]
  have he : errN (ndsT t 0) t = 0 := by unfold errN; rw [if_pos hwr]
  have hkr := kR_rng 32 t []
  have hk0 := wR_kind (p := 0) hd hwr
  obtain ⟨k, hkk⟩ : ∃ k, kR 32 t [] = k := ⟨_, rfl⟩
  rw [hkk] at hk hkr hk0
  rw [hk, ha, he] at OB
  have hk1 : 1 ≤ k := by omega
  have hk5 : k ≤ 5 := hkr.2
  have d1 : decide (k < 1) = false := by simp; omega
  have d2 : decide (k > 5) = false := by simp; omega
  have d3 : decide (5 < k) = false := by simp; omega
  have AB := Lib.hid (fun ask W (hW : Below w.heap.size w W) => above_any ask W w hs (by rw [nds_len]; exact hsz) (kids_fewT hg hsz) hW)
  have HT := Lib.hid (And.intro hg (And.intro hd (And.intro hsz (And.intro hwr hkk))))
  have HV := Lib.hid hv
  have HK := Lib.hid (And.intro hk1 hk5)
  rw [hn] at AB
  clear hs hv hn hb hg hd hsz hwr hfr hk ha he hkr hk0 hkk hk1 hk5
  go_enter Tryz.func3, Tryz.ntmps3
  have tokC : True := trivial
  go_upto_region 10 with (first
    | (go_at_call 7; go_must (refine AW.out.mono ?_); rintro e w1 ⟨rfl, b1⟩
       go_must (have B1 := Lib.hid (HB.out.trans (b1.mono HB.out.size)))
       go_must (have K1 := Lib.hid (KE.out.below b1 KE.out.lt))
       have e1 : w1.cell? ⟨w.heap.size, 0, none⟩ = some (.slice a n c) := K1.out.cell rfl
       have l1 : w.heap.size < w1.heap.size := K1.out.lt
       clear b1)
    | (go_at_call 8; go_must (refine (OB.out w1 B1.out).mono ?_); rintro e w2 ⟨rfl, b2⟩
       go_must (have B2 := Lib.hid (B1.out.trans (b2.mono B1.out.size)))
       go_must (have K2 := Lib.hid (K1.out.below b2 K1.out.lt))
       have e2 : w2.cell? ⟨w.heap.size, 0, none⟩ = some (.slice a n c) := K2.out.cell rfl
       have l2 : w.heap.size < w2.heap.size := K2.out.lt
       clear b2)
    | (go_at_call 9; go_must (refine (CL.out w2 B2.out).mono ?_); rintro e w3 ⟨rfl, b3⟩
       go_must (have B3 := Lib.hid (B2.out.trans (b3.mono B2.out.size)))
       go_must (have K3 := Lib.hid (K2.out.below b3 K2.out.lt))
       clear b3)
    | fail)
  clear e1 l1 e2 l2
  have KA : Hid (Blk (w3.alloc (.cells #[.int .i64 16, .int .i64 19, .int .i64 29, .int .i64 17, .int .i64 14] 30)) w3.heap.size 30 #[.int .i64 16, .int .i64 19, .int .i64 29, .int .i64 17, .int .i64 14]) := Lib.hid (Blk.new _ _ _)
  have KE4 : Hid (Blk (w3.alloc (.cells #[.int .i64 16, .int .i64 19, .int .i64 29, .int .i64 17, .int .i64 14] 30)) w.heap.size 24 #[.slice a n c]) := Lib.hid (K3.out.alloc _)
  have B4 : Hid (Below w.heap.size w (w3.alloc (.cells #[.int .i64 16, .int .i64 19, .int .i64 29, .int .i64 17, .int .i64 14] 30))) := Lib.hid (B3.out.alloc B3.out.size _)
  generalize hW4 : w3.alloc (.cells #[.int .i64 16, .int .i64 19, .int .i64 29, .int .i64 17, .int .i64 14] 30) = W4 at *
  clear hW4
  obtain ⟨ga, hga⟩ : ∃ z, w3.heap.size = z := ⟨_, rfl⟩
  rw [hga] at KA ⊢
  clear hga
  obtain ⟨eb, heb⟩ : ∃ z, w.heap.size = z := ⟨_, rfl⟩
  have HEB := Lib.hid heb
  rw [heb] at KE4 ⊢
  clear heb
  go_loopw [7, 8, 9, 10, 11, 12] (fun v7 _ _ _ _ _ wr => ∃ i : Nat, i ≤ 5 ∧ v7 = .int .i64 (i : Int) ∧ Hid (Blk wr ga 30 #[.int .i64 16, .int .i64 19, .int .i64 29, .int .i64 17, .int .i64 14] ∧ Blk wr eb 24 #[.slice a n c] ∧ Below w.heap.size w wr)) (fun v7 _ _ _ _ _ _ => 5 - (intOf v7).toNat)
  case atStart => exact ⟨0, by omega, rfl, Lib.hid ⟨KA.out, KE4.out, B4.out⟩⟩
  case round =>
    obtain ⟨i, hi, rfl, hr⟩ := hrel
    have KA5 := Lib.hid hr.out.1
    have KE5 := Lib.hid hr.out.2.1
    have B5 := Lib.hid hr.out.2.2
    clear hr KA KE4 B4
    have e5 : wr.cell? ⟨eb, 0, none⟩ = some (.slice a n c) := KE5.out.cell rfl
    have l5 : eb < wr.heap.size := KE5.out.lt
    have la5 : ga < wr.heap.size := KA5.out.lt
    have i0 : (0 : Int) ≤ (i : Int) := Int.natCast_nonneg _
    by_cases hlt : i < 5
    · obtain ⟨ask, hask, hcell, hsome⟩ := ask_at hlt
      have a5 : wr.cell? ⟨ga, i, none⟩ = some (.int .i64 (ask : Int)) := KA5.out.cell hcell
      have AB1 := Lib.hid (AB.out ask wr.drew B5.out.drew)
      have AB2 := Lib.hid (AB.out ask (wr.alloc (.cells #[.slice none 0 0] 24)).drew (B5.out.alloc B5.out.size _).drew)
      have HASK := Lib.hid (And.intro hask hsome)
      have HLT := Lib.hid hlt
      have i5 : (i : Int) < 5 := by omega
      have i5n : decide (i < 5) = true := decide_eq_true hlt
      clear hask hcell hsome hlt
      go_upto_region 12 with fail
      have tok1 : True := trivial
      have tok2 : True := trivial
      go_cut [8] from 41 to 45 (fun v8 wx => ∃ (g8 c8 B8 : Nat) (a8 : Option Addr) (es : List (ND × Value)), v8 = .pointer (some ⟨g8, 0, none⟩) ∧ Hid (Blk wx g8 24 #[.slice a8 (n + 1) c8] ∧ NL wx B8 (.slice a8 (n + 1) c8) es ∧ es.map (·.1) = aboveN ask (ndsT t 0) ∧ Below wr.heap.size wr wx))
      case first =>
        go_region_law (first
          | (have _t := tok1; go_simp; go_at_call 10; (with_reducible refine AB1.out.mono ?_); clear tok1 _t; rintro e w6 ⟨a8, c8, es, rfl, hnl, hes, b6⟩
             have R6 := Lib.hid (And.intro hnl (And.intro hes b6))
             clear hnl hes b6)
          | (have _t := tok2; go_simp; go_at_call 10; (with_reducible refine AB2.out.mono ?_); clear tok2 _t; rintro e w6 ⟨a8, c8, es, rfl, hnl, hes, b6⟩
             go_must (have K6 := Lib.hid ((Blk.new wr 24 #[.slice none 0 0]).drwC.below b6 (by simp)))
             have z6 := K6.out.frozen 0
             have c6 : w6.cell? ⟨wr.heap.size, 0, none⟩ = some (.slice none 0 0) := K6.out.cell rfl
             have l6 := K6.out.lt
             have R6 := Lib.hid (And.intro hnl (And.intro hes b6))
             clear hnl hes b6)
          | fail)
        all_goals
          go_wp2_with fail
          go_meet
          have hbw : ∀ X, Below wr.drew.heap.size wr.drew X → Below wr.heap.size wr X := fun X h => (Below.refl wr.heap.size wr).drew.trans h
          first
            | exact ⟨_, c8, _, a8, es, rfl, Lib.hid ⟨Blk.new _ _ _, R6.out.1.alloc _, R6.out.2.1, (hbw _ R6.out.2.2).alloc R6.out.2.2.size _⟩⟩
            | exact ⟨_, c8, _, a8, es, rfl, Lib.hid ⟨K6.out.set_ 0 _, R6.out.1.setFar (p := ⟨wr.heap.size, 0, none⟩) (by show wr.heap.size < (wr.alloc _).heap.size + 2; rw [World.size_alloc]; omega) _, R6.out.2.1, (((Below.refl wr.heap.size wr).alloc (Nat.le_refl _) _).drew.trans (R6.out.2.2.mono (by show wr.heap.size ≤ (wr.alloc _).heap.size; rw [World.size_alloc]; omega))).setCell (p := ⟨wr.heap.size, 0, none⟩) (Nat.le_refl _) _⟩⟩
      case rest =>
        obtain ⟨g8, c8, B8, a8, es, rfl, hkc⟩ := hcut
        rename World => wx
        have KG := Lib.hid hkc.out.1
        have BX : Hid (Below wr.heap.size wr wx) := Lib.hid hkc.out.2.2.2
        have hsr := hkc.out.2.1.read
        rw [hkc.out.2.2.1, show aboveN ask (ndsT t 0) = ndsT (aboveT ask t) 0 from (nds_above ask t).symm] at hsr
        have SR := Lib.hid hsr
        have BXW : Hid (Below w.heap.size w wx) := Lib.hid (B5.out.trans (BX.out.mono B5.out.size))
        have hgA : (aboveT ask t).Good := above_good (above_shape t HASK.out.2) HT.out.1
        have HGA := Lib.hid hgA
        have VX := Lib.hid (HV.out.below BXW.out)
        have RX := Lib.hid (right_e wx wx SR.out (nds_ok hgA 0) VX.out.marks VX.out.pow (Below.refl _ _))
        rw [right_tr hgA] at RX
        have g8c : wx.cell? ⟨g8, 0, none⟩ = some (.slice a8 (n + 1) c8) := KG.out.cell rfl
        have lg8 : g8 < wx.heap.size := KG.out.lt
        have e6 : wx.cell? ⟨eb, 0, none⟩ = some (.slice a n c) := (KE5.out.below BX.out l5).cell rfl
        have hsz8 := BX.out.size
        clear hkc hsr hgA AB1 AB2 e5 a5
        by_cases hbig : 256 < (aboveT ask t).size ∨ 32 < (aboveT ask t).deep
        · rw [if_pos hbig] at RX
          clear hbig
          go_wp2_with (first
            | (go_at_call 11; go_must (refine RX.out.mono ?_); rintro e w7 ⟨rfl, b7⟩; have B7 := Lib.hid (BXW.out.trans (b7.mono BXW.out.size)); clear b7)
            | fail)
          go_ret
          exact ⟨rfl, B7.out⟩
        · rw [if_neg hbig] at RX
          have hdA : (aboveT ask t).deep ≤ 32 := by omega
          have hsA : (aboveT ask t).size ≤ 256 := by omega
          have hd31 : t.deep ≤ 31 := by rw [above_deep] at hdA; omega
          have OX := Lib.hid (fun W (hW : Below wx.heap.size wx W) => of_t (W := W) ⟨SR.out, VX.out, hW, HGA.out, hdA, hsA⟩)
          have hkA := above_kind HASK.out.2 hd31 HT.out.2.2.2.1
          have hwA := above_wrong HASK.out.2 hd31 HT.out.2.2.2.1
          rw [HT.out.2.2.2.2] at hkA hwA
          have hon := ask_one HLT.out HASK.out.1 HK.out.1 HK.out.2
          by_cases h1 : (i : Int) + 1 = k
          · have hmk := hon.2 h1
            obtain ⟨mk, hmkd⟩ : ∃ z, oneK ask k = z := ⟨_, rfl⟩
            rw [hmkd] at hkA hwA hmk
            rw [if_neg hmk] at hwA
            have c1 : kindT (aboveT ask t) = mk := by unfold kindT; rw [if_pos (by omega), hkA]
            have c2 : atN (aboveT ask t) = 0 := by unfold atN; rw [if_pos (by omega)]
            have c3 : errN (ndsT (aboveT ask t) 0) (aboveT ask t) = 0 := by unfold errN; rw [if_pos (by omega)]
            rw [c1, c2, c3] at OX
            have q1 : (((i : Int) + 1) == k) = true := by rw [beq_iff_eq]; exact h1
            have q2 : (((i : Int) + 1) != k) = false := by rw [h1]; simp
            have q3 : (mk == 0) = false := by simpa using hmk
            clear hbig hdA hsA hd31 hkA hwA hon h1 hmk hmkd c1 c2 c3
            go_wp2_with (first
              | (go_at_call 11; go_must (refine RX.out.mono ?_); rintro e w7 ⟨rfl, b7⟩
                 go_must (have B7 := Lib.hid b7)
                 have g7 : w7.cell? ⟨g8, 0, none⟩ = some (.slice a8 (n + 1) c8) := (KG.out.below b7 lg8).cell rfl
                 have l7 : g8 < w7.heap.size := Nat.lt_of_lt_of_le lg8 b7.size
                 clear b7)
              | (go_at_call 8; go_must (refine (OX.out w7 B7.out).mono ?_); rintro e w8 ⟨rfl, b8⟩
                 have B8 := Lib.hid (BX.out.trans ((B7.out.trans (b8.mono B7.out.size)).mono BX.out.size))
                 clear b8)
              | fail)
            go_roundw
            case rel => exact ⟨i + 1, HLT.out, by go_num, Lib.hid ⟨KA5.out.below B8.out la5, KE5.out.below B8.out l5, B5.out.trans (B8.out.mono B5.out.size)⟩⟩
            case measure => simp [intOf]; have := HLT.out; omega
          · have hz : oneK ask k = 0 := by
              rcases Classical.em (oneK ask k = 0) with h | h
              · exact h
              · exact absurd (hon.1 h) h1
            rw [hz, if_pos rfl] at hwA
            have c1 : kindT (aboveT ask t) = 0 := by unfold kindT; rw [if_neg (by omega)]
            have c2 : atN (aboveT ask t) = 0 := by unfold atN; rw [if_neg (by omega), hwA]
            have c3 : errN (ndsT (aboveT ask t) 0) (aboveT ask t) = 90 := by
              unfold errN
              rw [if_neg (by omega), hwA, nds_above]
              simp
              have := HASK.out.2
              omega
            rw [c1, c2, c3] at OX
            have q1 : (((i : Int) + 1) == k) = false := by simpa using h1
            have q2 : (((i : Int) + 1) != k) = true := by simpa using h1
            clear hbig hdA hsA hd31 hkA hwA hon h1 hz c1 c2 c3
            go_wp2_with (first
              | (go_at_call 11; go_must (refine RX.out.mono ?_); rintro e w7 ⟨rfl, b7⟩
                 go_must (have B7 := Lib.hid b7)
                 have g7 : w7.cell? ⟨g8, 0, none⟩ = some (.slice a8 (n + 1) c8) := (KG.out.below b7 lg8).cell rfl
                 have l7 : g8 < w7.heap.size := Nat.lt_of_lt_of_le lg8 b7.size
                 clear b7)
              | (go_at_call 8; go_must (refine (OX.out w7 B7.out).mono ?_); rintro e w8 ⟨rfl, b8⟩
                 have B8 := Lib.hid (BX.out.trans ((B7.out.trans (b8.mono B7.out.size)).mono BX.out.size))
                 clear b8)
              | fail)
            go_roundw
            case rel => exact ⟨i + 1, HLT.out, by go_num, Lib.hid ⟨KA5.out.below B8.out la5, KE5.out.below B8.out l5, B5.out.trans (B8.out.mono B5.out.size)⟩⟩
            case measure => simp [intOf]; have := HLT.out; omega
    · have hi5 : i = 5 := by omega
      subst hi5
      clear hlt
      go_wp2_with fail
      go_ret
      exact ⟨rfl, B5.out⟩
/-- the law -/
theorem lawOne {l : List ND} {v : Value} (w : World) (hs : SlR w w.heap.size 4 (ND.Is w w.heap.size) v l) (hok : ∀ d ∈ l, NdOk d) (hv : AllV w) : Calls Tryz.prog 3 #[.agg #[v]] w fun e w' => e = .returned (.bool true) ∧ Below w.heap.size w w' := by
  by_cases hr : rightE l = 0
  · obtain ⟨t, tg, td, ts, hl, _⟩ := right_tree hok hr
    subst hl
    by_cases hwr : wR 32 t [] 0 < 0
    · exact one_ok w hs hv tg td ts hwr
    · exact one_wrong w hs hv tg td ts hwr
  · exact one_bad w hs hv hok hr
end Go.Proofs.YtidkbodmiegbkaaGreatDoor
