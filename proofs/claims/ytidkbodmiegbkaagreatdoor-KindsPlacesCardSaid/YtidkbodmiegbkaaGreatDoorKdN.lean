/- Chapter 09: the kind that the program reckons, walked. -/
import Derived.Test.YtidkbodmiegbkaaGreatDoorKdM
import Derived.Deep.CutRange
import Derived.Deep.CutBlock
import Derived.Deep.QuietTactic
import Derived.BigQuiet
import Derived.StillTailTactics
namespace Go.Proofs.YtidkbodmiegbkaaGreatDoor
set_option linter.unusedSimpArgs false
set_option linter.unusedVariables false
open Go.RowKit

def takesV : Array Value := (takesL.flatMap fun x => [Value.int .i64 x.1, Value.int .i64 x.2.1, Value.int .i64 x.2.2]).toArray
def TakesB (w : World) : Prop := ∃ t fr, w.heap[0]? = some (.cells takesV t fr)
theorem TakesB.block {w w' : World} (h : TakesB w) (hb : w'.heap[0]? = w.heap[0]?) : TakesB w' := let ⟨t, fr, e⟩ := h; ⟨t, fr, hb.trans e⟩
theorem takes_get {k : Nat} (hk : k < 35) : takesV[k * 3]? = some (.int .i64 (takesL.getD k (0, 0, 0)).1) ∧ takesV[k * 3 + 1]? = some (.int .i64 (takesL.getD k (0, 0, 0)).2.1) ∧ takesV[k * 3 + 2]? = some (.int .i64 (takesL.getD k (0, 0, 0)).2.2) := by
  rcases (by omega : k = 0 ∨ k = 1 ∨ k = 2 ∨ k = 3 ∨ k = 4 ∨ k = 5 ∨ k = 6 ∨ k = 7 ∨ k = 8 ∨ k = 9 ∨ k = 10 ∨ k = 11 ∨ k = 12 ∨ k = 13 ∨ k = 14 ∨ k = 15 ∨ k = 16 ∨ k = 17 ∨ k = 18 ∨ k = 19 ∨ k = 20 ∨ k = 21 ∨ k = 22 ∨ k = 23 ∨ k = 24 ∨ k = 25 ∨ k = 26 ∨ k = 27 ∨ k = 28 ∨ k = 29 ∨ k = 30 ∨ k = 31 ∨ k = 32 ∨ k = 33 ∨ k = 34) with rfl | rfl | rfl | rfl | rfl | rfl | rfl | rfl | rfl | rfl | rfl | rfl | rfl | rfl | rfl | rfl | rfl | rfl | rfl | rfl | rfl | rfl | rfl | rfl | rfl | rfl | rfl | rfl | rfl | rfl | rfl | rfl | rfl | rfl | rfl
  all_goals exact ⟨rfl, rfl, rfl⟩
theorem TakesB.cell {w : World} (h : TakesB w) {k j : Nat} {v : Value} (hv : takesV[k * 3 + j]? = some v) : w.cell? ⟨0, k * 3 + j, none⟩ = some v := by
  obtain ⟨t, fr, e⟩ := h
  rw [World.cell?]
  show (match w.heap[0]? with | some (.cells c _ _) => _ | _ => none) = _
  rw [e]
  simpa using hv
/-- the kids' kinds as they come in -/
def AR (a : Nat → Int) (i : Nat) : Array Value := #[.int .i64 (if 0 < i then a 0 else 0), .int .i64 (if 1 < i then a 1 else 0), .int .i64 (if 2 < i then a 2 else 0)]
theorem AR_set (a : Nat → Int) {i : Nat} (h : i < 3) : (AR a i).setIfInBounds i (.int .i64 (a i)) = AR a (i + 1) := by
  rcases (by omega : i = 0 ∨ i = 1 ∨ i = 2) with rfl | rfl | rfl <;> rfl
theorem AR_end {a : Nat → Int} {i : Nat} (h : ∀ j, i ≤ j → a j = 0) : AR a i = #[.int .i64 (a 0), .int .i64 (a 1), .int .i64 (a 2)] := by
  have e : ∀ j, (if j < i then a j else 0) = a j := fun j => by
    by_cases hj : j < i
    · rw [if_pos hj]
    · rw [if_neg hj, h j (by omega)]
  unfold AR
  rw [e 0, e 1, e 2]
theorem cnt_in {vs : List (List Nat)} {s : List Nat} : decide (0 < cntV vs s) = decide (s ∈ vs) := by
  unfold cntV
  by_cases h : s ∈ vs
  · have := List.count_pos_iff.2 h
    simp [h]
  · have := List.count_eq_zero.2 h
    simp [h, this]
theorem cnt_zero {vs : List (List Nat)} {s : List Nat} : (cntV vs s == 0) = !decide (s ∈ vs) := by
  unfold cntV
  by_cases h : s ∈ vs
  · have := List.count_pos_iff.2 h
    simp [h]
    omega
  · have := List.count_eq_zero.2 h
    simp [h, this]
theorem cnt_le {vs : List (List Nat)} {s : List Nat} : 0 ≤ cntV vs s ∧ cntV vs s ≤ vs.length := by
  unfold cntV
  have := List.count_le_length (a := s) (l := vs)
  omega
theorem Blk.drwN' {w : World} {g : Nat} {t : TypeId} {cs : Array Value} (h : Blk w g t cs) (n : Nat) : Blk (w.drewN n) g t cs := h

set_option maxRecDepth 100000 in
set_option maxHeartbeats 8000000 in
theorem kindp_7 {W : World} {g bm kb fm nb nf nk : Nat} {lv kv : Value} {K : List Int} {vs F : List (List Nat)} {s : List Nat} {n : Int} {qs : List Nat} (H : KSt W g bm kb fm nb nf lv K vs F) (htk : TakesB W) (hs : NameOk s) (hkv : SlR W W.heap.size 1 IsI kv (qs.map fun n : Nat => (n : Int))) (hq : qs.length = nk) (hn3 : nk ≤ 3) (a : Nat → Int) (ha : ∀ i q, qs[i]? = some q → K[q]? = some (a i)) (hz : ∀ i, nk ≤ i → a i = 0) :
    Calls Tryz.prog 38 #[.pointer (some ⟨g, 0, none⟩), .agg #[.int .i64 7, .string (txt s), .int .i64 n, kv]] W fun e w' => e = .returned (.int .i64 (kindP 7 (decide (s ∈ vs)) (a 0) (a 1) (a 2))) ∧ Below W.heap.size W w' := by
  obtain ⟨a0, ha0⟩ : ∃ z, a 0 = z := ⟨_, rfl⟩
  obtain ⟨a1, ha1⟩ : ∃ z, a 1 = z := ⟨_, rfl⟩
  obtain ⟨a2, ha2⟩ : ∃ z, a 2 = z := ⟨_, rfl⟩
  obtain ⟨bb, hbb⟩ : ∃ z, decide (s ∈ vs) = z := ⟨_, rfl⟩
  rw [ha0, ha1, ha2, hbb]
  have HA0 := Lib.hid ha0
  have HA1 := Lib.hid ha1
  have HA2 := Lib.hid ha2
  have HBB := Lib.hid hbb
  clear ha0 ha1 ha2 hbb
  obtain ⟨ka, kc, rfl, _, _⟩ := hkv.form
  rw [List.length_map, hq] at hkv ⊢
  obtain ⟨nK, hnK⟩ : ∃ z, K.length = z := ⟨_, rfl⟩
  have c2 : W.cell? ⟨g, 2, none⟩ = some (.slice (some ⟨kb, 0, none⟩) nK nK) := by rw [← hnK]; exact H.blk.cell rfl
  have c1 : W.cell? ⟨g, 1, none⟩ = some (.map (some bm)) := H.blk.cell rfl
  have hgl := H.lt.1
  have HH := Lib.hid H
  have HKV := Lib.hid hkv
  have HQ := Lib.hid hq
  have HA := Lib.hid ha
  have HZ := Lib.hid hz
  have HT := Lib.hid htk
  have HS := Lib.hid hs
  have HNK := Lib.hid hnK
  clear H hkv hq ha hz htk hs hnK
  go_enter Tryz.func38, Tryz.ntmps38
  go_wp2_with fail
  have BN : Hid (Blk (W.alloc (.cells #[.int .i64 7, .string (txt s), .int .i64 n, .slice ka nk kc] 40)) W.heap.size 40 #[.int .i64 7, .string (txt s), .int .i64 n, .slice ka nk kc]) := Lib.hid (Blk.new _ _ _)
  have BA : Hid (Blk ((W.alloc (.cells #[.int .i64 7, .string (txt s), .int .i64 n, .slice ka nk kc] 40)).alloc (.cells #[.int .i64 0, .int .i64 0, .int .i64 0] 108)) (W.heap.size + 1) 108 (AR a 0)) := Lib.hid (Blk.new_ (w := W.alloc (.cells #[.int .i64 7, .string (txt s), .int .i64 n, .slice ka nk kc] 40)) (by simp) _ _)
  have BN2 : Hid (Blk ((W.alloc (.cells #[.int .i64 7, .string (txt s), .int .i64 n, .slice ka nk kc] 40)).alloc (.cells #[.int .i64 0, .int .i64 0, .int .i64 0] 108)) W.heap.size 40 #[.int .i64 7, .string (txt s), .int .i64 n, .slice ka nk kc]) := Lib.hid (BN.out.alloc _)
  have B1 : Hid (Below W.heap.size W ((W.alloc (.cells #[.int .i64 7, .string (txt s), .int .i64 n, .slice ka nk kc] 40)).alloc (.cells #[.int .i64 0, .int .i64 0, .int .i64 0] 108))) := Lib.hid (((Below.refl _ _).alloc (Nat.le_refl _) _).alloc (by simp) _)
  generalize hW1 : (W.alloc (.cells #[.int .i64 7, .string (txt s), .int .i64 n, .slice ka nk kc] 40)).alloc (.cells #[.int .i64 0, .int .i64 0, .int .i64 0] 108) = W1 at *
  obtain ⟨q0, hq0⟩ : ∃ z, W.heap.size = z := ⟨_, rfl⟩
  rw [hq0] at BA BN2 ⊢
  clear hW1 BN c1 c2
  go_loopw [12] (fun v12 wr => ∃ i : Nat, i ≤ nk ∧ v12 = .int .i64 (i : Int) ∧ Hid (Blk wr (q0 + 1) 108 (AR a i) ∧ Blk wr q0 40 #[.int .i64 7, .string (txt s), .int .i64 n, .slice ka nk kc] ∧ Below W.heap.size W wr)) (fun v12 _ => nk - (intOf v12).toNat)
  case atStart => exact ⟨0, Nat.zero_le _, rfl, Lib.hid ⟨BA.out, BN2.out, B1.out⟩⟩
  case round =>
    obtain ⟨i, hi, rfl, h6⟩ := hrel
    have HB := Lib.hid (HH.out.below h6.out.2.2)
    have d1 : wr.cell? ⟨g, 1, none⟩ = some (.map (some bm)) := HB.out.blk.cell rfl
    have d2 : wr.cell? ⟨g, 2, none⟩ = some (.slice (some ⟨kb, 0, none⟩) nK nK) := by rw [← HNK.out]; exact HB.out.blk.cell rfl
    have n0 : wr.cell? ⟨q0, 0, none⟩ = some (.int .i64 7) := h6.out.2.1.cell rfl
    have n1 : wr.cell? ⟨q0, 1, none⟩ = some (.string (txt s)) := h6.out.2.1.cell rfl
    have n3 : wr.cell? ⟨q0, 3, none⟩ = some (.slice ka nk kc) := h6.out.2.1.cell rfl
    by_cases hlt : i < nk
    · obtain ⟨q, hqi⟩ := get_some HQ.out hlt
      have hqi' : (qs.map fun n : Nat => (n : Int))[i]? = some (q : Int) := by rw [List.getElem?_map, hqi]; rfl
      obtain ⟨b, off, x, rfl, hbB, hxl, rfl, hx⟩ := (HKV.out.below h6.out.2.2).at_ hqi'
      have x0 := hx 0 _ rfl
      simp only [Nat.add_zero, Nat.mul_one] at x0
      have hKq := HA.out i q hqi
      have y0 := HB.out.cell hKq
      have hql : q < nK := by rw [← HNK.out]; exact (List.getElem?_eq_some_iff.1 hKq).1
      have k0 : (0 : Int) ≤ (q : Int) := Int.natCast_nonneg _
      have k1 : (q : Int) < (nK : Int) := by omega
      have i0 : (0 : Int) ≤ (i : Int) := Int.natCast_nonneg _
      have i1 : (i : Int) < (nk : Int) := by omega
      have i3 : (i : Int) < 3 := by omega
      have i4 : i < 3 := by omega
      obtain ⟨u, hu⟩ : ∃ u, (AR a i)[i]? = some u := by
        rcases (by omega : i = 0 ∨ i = 1 ∨ i = 2) with rfl | rfl | rfl <;> exact ⟨_, rfl⟩
      have z0 : wr.cell? ⟨q0 + 1, i, none⟩ = some u := h6.out.1.cell hu
      have zf : wr.frozen? ⟨q0 + 1, i, none⟩ = false := h6.out.1.frozen i
      obtain ⟨ai, hai⟩ : ∃ z, a i = z := ⟨_, rfl⟩
      rw [hai] at y0
      have HAI := Lib.hid hai
      have HU := Lib.hid hu
      have ne : q0 + 1 ≠ q0 := by omega
      clear hqi hqi' hx hxl hKq hu hai
      go_wp2_with fail
      go_roundw
      case rel =>
        refine ⟨i + 1, by omega, by go_num, Lib.hid ⟨?_, h6.out.2.1.far (p := ⟨q0 + 1, i, none⟩) (by show q0 ≠ q0 + 1; omega) _, h6.out.2.2.setCell (p := ⟨q0 + 1, i, none⟩) (by show W.heap.size ≤ q0 + 1; omega) _⟩⟩
        have := h6.out.1.set_ i (.int .i64 (a i))
        rw [AR_set a i4, HAI.out] at this
        exact this
      case measure => simp [intOf]; omega
    · have hin : i = nk := by omega
      subst hin
      have hB := h6.out.1
      rw [AR_end HZ.out] at hB
      have hM := HB.out.bnd.at_
      have htw := Lib.hid (HT.out.block (h6.out.2.2.block 0 (by obtain ⟨t, fr, e⟩ := HT.out; rcases Nat.lt_or_ge 0 W.heap.size with h | h; exact h; rw [Array.getElem?_eq_none h] at e; cases e)))
      have BE := Lib.hid h6.out.2.2
      have HM := Lib.hid hM
      rw [HA0.out, HA1.out, HA2.out] at hB
      have o0 : wr.cell? ⟨q0 + 1, 0, none⟩ = some (.int .i64 a0) := hB.cell rfl
      have o1 : wr.cell? ⟨q0 + 1, 1, none⟩ = some (.int .i64 a1) := hB.cell rfl
      have o2 : wr.cell? ⟨q0 + 1, 2, none⟩ = some (.int .i64 a2) := hB.cell rfl
      have lo : q0 + 1 < wr.heap.size := hB.lt
      have lq : q0 < wr.heap.size := by omega
      clear hB hM h6 hlt hi
      have hcn := cnt_in (vs := vs) (s := s)
      obtain ⟨cv, hcv⟩ : ∃ z, cntV vs s = z := ⟨_, rfl⟩
      have HCV := Lib.hid hcv
      rw [hcv, HBB.out] at hcn
      clear hcv HBB
      go_upto_region 12 with fail
      go_still_tail 6, (by kernel_rfl)
      change wpList _ _ _ _ _ wr.drew
      have HM2 : Hid (MapAt wr.drew bm nb (cntV vs)) := Lib.hid (let ⟨D, h1, h2, h3⟩ := HM.out; ⟨D, ownsMap_block h1 rfl, h2, h3⟩)
      have BE2 := Lib.hid (BE.out.drew)
      generalize wr.drew = w2 at *
      cases bb
      · go_wp2_with (first
          | (at_lookup; go_must (refine wpList_look rfl _ _ rfl HM2.out HS.out (by rfl) (by rfl) ?_); rw [HCV.out])
          | fail)
        go_ret
        exact ⟨rfl, BE2.out⟩
      · go_wp2_with (first
          | (at_lookup; go_must (refine wpList_look rfl _ _ rfl HM2.out HS.out (by rfl) (by rfl) ?_); rw [HCV.out])
          | fail)
        go_ret
        exact ⟨rfl, BE2.out⟩
set_option maxRecDepth 100000 in
set_option maxHeartbeats 8000000 in
theorem kindp_20 {W : World} {g bm kb fm nb nf nk : Nat} {lv kv : Value} {K : List Int} {vs F : List (List Nat)} {s : List Nat} {n : Int} {qs : List Nat} (H : KSt W g bm kb fm nb nf lv K vs F) (htk : TakesB W) (hs : NameOk s) (hkv : SlR W W.heap.size 1 IsI kv (qs.map fun n : Nat => (n : Int))) (hq : qs.length = nk) (hn3 : nk ≤ 3) (a : Nat → Int) (ha : ∀ i q, qs[i]? = some q → K[q]? = some (a i)) (hz : ∀ i, nk ≤ i → a i = 0) :
    Calls Tryz.prog 38 #[.pointer (some ⟨g, 0, none⟩), .agg #[.int .i64 20, .string (txt s), .int .i64 n, kv]] W fun e w' => e = .returned (.int .i64 (kindP 20 (decide (s ∈ vs)) (a 0) (a 1) (a 2))) ∧ Below W.heap.size W w' := by
  obtain ⟨a0, ha0⟩ : ∃ z, a 0 = z := ⟨_, rfl⟩
  obtain ⟨a1, ha1⟩ : ∃ z, a 1 = z := ⟨_, rfl⟩
  obtain ⟨a2, ha2⟩ : ∃ z, a 2 = z := ⟨_, rfl⟩
  obtain ⟨bb, hbb⟩ : ∃ z, decide (s ∈ vs) = z := ⟨_, rfl⟩
  rw [ha0, ha1, ha2, hbb]
  have HA0 := Lib.hid ha0
  have HA1 := Lib.hid ha1
  have HA2 := Lib.hid ha2
  have HBB := Lib.hid hbb
  clear ha0 ha1 ha2 hbb
  obtain ⟨ka, kc, rfl, _, _⟩ := hkv.form
  rw [List.length_map, hq] at hkv ⊢
  obtain ⟨nK, hnK⟩ : ∃ z, K.length = z := ⟨_, rfl⟩
  have c2 : W.cell? ⟨g, 2, none⟩ = some (.slice (some ⟨kb, 0, none⟩) nK nK) := by rw [← hnK]; exact H.blk.cell rfl
  have c1 : W.cell? ⟨g, 1, none⟩ = some (.map (some bm)) := H.blk.cell rfl
  have hgl := H.lt.1
  have HH := Lib.hid H
  have HKV := Lib.hid hkv
  have HQ := Lib.hid hq
  have HA := Lib.hid ha
  have HZ := Lib.hid hz
  have HT := Lib.hid htk
  have HS := Lib.hid hs
  have HNK := Lib.hid hnK
  clear H hkv hq ha hz htk hs hnK
  go_enter Tryz.func38, Tryz.ntmps38
  go_wp2_with fail
  have BN : Hid (Blk (W.alloc (.cells #[.int .i64 20, .string (txt s), .int .i64 n, .slice ka nk kc] 40)) W.heap.size 40 #[.int .i64 20, .string (txt s), .int .i64 n, .slice ka nk kc]) := Lib.hid (Blk.new _ _ _)
  have BA : Hid (Blk ((W.alloc (.cells #[.int .i64 20, .string (txt s), .int .i64 n, .slice ka nk kc] 40)).alloc (.cells #[.int .i64 0, .int .i64 0, .int .i64 0] 108)) (W.heap.size + 1) 108 (AR a 0)) := Lib.hid (Blk.new_ (w := W.alloc (.cells #[.int .i64 20, .string (txt s), .int .i64 n, .slice ka nk kc] 40)) (by simp) _ _)
  have BN2 : Hid (Blk ((W.alloc (.cells #[.int .i64 20, .string (txt s), .int .i64 n, .slice ka nk kc] 40)).alloc (.cells #[.int .i64 0, .int .i64 0, .int .i64 0] 108)) W.heap.size 40 #[.int .i64 20, .string (txt s), .int .i64 n, .slice ka nk kc]) := Lib.hid (BN.out.alloc _)
  have B1 : Hid (Below W.heap.size W ((W.alloc (.cells #[.int .i64 20, .string (txt s), .int .i64 n, .slice ka nk kc] 40)).alloc (.cells #[.int .i64 0, .int .i64 0, .int .i64 0] 108))) := Lib.hid (((Below.refl _ _).alloc (Nat.le_refl _) _).alloc (by simp) _)
  generalize hW1 : (W.alloc (.cells #[.int .i64 20, .string (txt s), .int .i64 n, .slice ka nk kc] 40)).alloc (.cells #[.int .i64 0, .int .i64 0, .int .i64 0] 108) = W1 at *
  obtain ⟨q0, hq0⟩ : ∃ z, W.heap.size = z := ⟨_, rfl⟩
  rw [hq0] at BA BN2 ⊢
  clear hW1 BN c1 c2
  go_loopw [12] (fun v12 wr => ∃ i : Nat, i ≤ nk ∧ v12 = .int .i64 (i : Int) ∧ Hid (Blk wr (q0 + 1) 108 (AR a i) ∧ Blk wr q0 40 #[.int .i64 20, .string (txt s), .int .i64 n, .slice ka nk kc] ∧ Below W.heap.size W wr)) (fun v12 _ => nk - (intOf v12).toNat)
  case atStart => exact ⟨0, Nat.zero_le _, rfl, Lib.hid ⟨BA.out, BN2.out, B1.out⟩⟩
  case round =>
    obtain ⟨i, hi, rfl, h6⟩ := hrel
    have HB := Lib.hid (HH.out.below h6.out.2.2)
    have d1 : wr.cell? ⟨g, 1, none⟩ = some (.map (some bm)) := HB.out.blk.cell rfl
    have d2 : wr.cell? ⟨g, 2, none⟩ = some (.slice (some ⟨kb, 0, none⟩) nK nK) := by rw [← HNK.out]; exact HB.out.blk.cell rfl
    have n0 : wr.cell? ⟨q0, 0, none⟩ = some (.int .i64 20) := h6.out.2.1.cell rfl
    have n1 : wr.cell? ⟨q0, 1, none⟩ = some (.string (txt s)) := h6.out.2.1.cell rfl
    have n3 : wr.cell? ⟨q0, 3, none⟩ = some (.slice ka nk kc) := h6.out.2.1.cell rfl
    by_cases hlt : i < nk
    · obtain ⟨q, hqi⟩ := get_some HQ.out hlt
      have hqi' : (qs.map fun n : Nat => (n : Int))[i]? = some (q : Int) := by rw [List.getElem?_map, hqi]; rfl
      obtain ⟨b, off, x, rfl, hbB, hxl, rfl, hx⟩ := (HKV.out.below h6.out.2.2).at_ hqi'
      have x0 := hx 0 _ rfl
      simp only [Nat.add_zero, Nat.mul_one] at x0
      have hKq := HA.out i q hqi
      have y0 := HB.out.cell hKq
      have hql : q < nK := by rw [← HNK.out]; exact (List.getElem?_eq_some_iff.1 hKq).1
      have k0 : (0 : Int) ≤ (q : Int) := Int.natCast_nonneg _
      have k1 : (q : Int) < (nK : Int) := by omega
      have i0 : (0 : Int) ≤ (i : Int) := Int.natCast_nonneg _
      have i1 : (i : Int) < (nk : Int) := by omega
      have i3 : (i : Int) < 3 := by omega
      have i4 : i < 3 := by omega
      obtain ⟨u, hu⟩ : ∃ u, (AR a i)[i]? = some u := by
        rcases (by omega : i = 0 ∨ i = 1 ∨ i = 2) with rfl | rfl | rfl <;> exact ⟨_, rfl⟩
      have z0 : wr.cell? ⟨q0 + 1, i, none⟩ = some u := h6.out.1.cell hu
      have zf : wr.frozen? ⟨q0 + 1, i, none⟩ = false := h6.out.1.frozen i
      obtain ⟨ai, hai⟩ : ∃ z, a i = z := ⟨_, rfl⟩
      rw [hai] at y0
      have HAI := Lib.hid hai
      have HU := Lib.hid hu
      have ne : q0 + 1 ≠ q0 := by omega
      clear hqi hqi' hx hxl hKq hu hai
      go_wp2_with fail
      go_roundw
      case rel =>
        refine ⟨i + 1, by omega, by go_num, Lib.hid ⟨?_, h6.out.2.1.far (p := ⟨q0 + 1, i, none⟩) (by show q0 ≠ q0 + 1; omega) _, h6.out.2.2.setCell (p := ⟨q0 + 1, i, none⟩) (by show W.heap.size ≤ q0 + 1; omega) _⟩⟩
        have := h6.out.1.set_ i (.int .i64 (a i))
        rw [AR_set a i4, HAI.out] at this
        exact this
      case measure => simp [intOf]; omega
    · have hin : i = nk := by omega
      subst hin
      have hB := h6.out.1
      rw [AR_end HZ.out] at hB
      have hM := HB.out.bnd.at_
      have htw := Lib.hid (HT.out.block (h6.out.2.2.block 0 (by obtain ⟨t, fr, e⟩ := HT.out; rcases Nat.lt_or_ge 0 W.heap.size with h | h; exact h; rw [Array.getElem?_eq_none h] at e; cases e)))
      have BE := Lib.hid h6.out.2.2
      have HM := Lib.hid hM
      rw [HA0.out, HA1.out, HA2.out] at hB
      have o0 : wr.cell? ⟨q0 + 1, 0, none⟩ = some (.int .i64 a0) := hB.cell rfl
      have o1 : wr.cell? ⟨q0 + 1, 1, none⟩ = some (.int .i64 a1) := hB.cell rfl
      have o2 : wr.cell? ⟨q0 + 1, 2, none⟩ = some (.int .i64 a2) := hB.cell rfl
      have lo : q0 + 1 < wr.heap.size := hB.lt
      have lq : q0 < wr.heap.size := by omega
      clear hB hM h6 hlt hi
      by_cases hab : a0 = a1
      · subst hab
        have e1 : (a0 == a0) = true := by simp
        by_cases h1 : a0 = 1
        · subst h1
          have hv : kindP 20 bb 1 1 a2 = 1 := by unfold kindP; simp
          have HV := Lib.hid hv
          clear hv
          go_wp2_with fail
          go_ret
          exact ⟨by rw [HV.out]; try rfl, BE.out⟩
        · have e2 : (a0 == 1) = false := by simpa using h1
          by_cases h2 : a0 = 2
          · subst h2
            have hv : kindP 20 bb 2 2 a2 = 2 := by unfold kindP; simp
            have HV := Lib.hid hv
            clear hv
            go_wp2_with fail
            go_ret
            exact ⟨by rw [HV.out]; try rfl, BE.out⟩
          · have e3 : (a0 == 2) = false := by simpa using h2
            have hv : kindP 20 bb a0 a0 a2 = 0 := by unfold kindP; simp [h1, h2]
            have HV := Lib.hid hv
            clear hv h1 h2
            go_wp2_with fail
            go_ret
            exact ⟨by rw [HV.out]; try rfl, BE.out⟩
      · have e1 : (a0 == a1) = false := by simpa using hab
        have hv : kindP 20 bb a0 a1 a2 = 0 := by unfold kindP; simp [hab]
        have HV := Lib.hid hv
        clear hv hab
        go_wp2_with fail
        go_ret
        exact ⟨by rw [HV.out]; try rfl, BE.out⟩
set_option maxRecDepth 100000 in
set_option maxHeartbeats 8000000 in
theorem kindp_25 {W : World} {g bm kb fm nb nf nk : Nat} {lv kv : Value} {K : List Int} {vs F : List (List Nat)} {s : List Nat} {n : Int} {qs : List Nat} (H : KSt W g bm kb fm nb nf lv K vs F) (htk : TakesB W) (hs : NameOk s) (hkv : SlR W W.heap.size 1 IsI kv (qs.map fun n : Nat => (n : Int))) (hq : qs.length = nk) (hn3 : nk ≤ 3) (a : Nat → Int) (ha : ∀ i q, qs[i]? = some q → K[q]? = some (a i)) (hz : ∀ i, nk ≤ i → a i = 0) :
    Calls Tryz.prog 38 #[.pointer (some ⟨g, 0, none⟩), .agg #[.int .i64 25, .string (txt s), .int .i64 n, kv]] W fun e w' => e = .returned (.int .i64 (kindP 25 (decide (s ∈ vs)) (a 0) (a 1) (a 2))) ∧ Below W.heap.size W w' := by
  obtain ⟨a0, ha0⟩ : ∃ z, a 0 = z := ⟨_, rfl⟩
  obtain ⟨a1, ha1⟩ : ∃ z, a 1 = z := ⟨_, rfl⟩
  obtain ⟨a2, ha2⟩ : ∃ z, a 2 = z := ⟨_, rfl⟩
  obtain ⟨bb, hbb⟩ : ∃ z, decide (s ∈ vs) = z := ⟨_, rfl⟩
  rw [ha0, ha1, ha2, hbb]
  have HA0 := Lib.hid ha0
  have HA1 := Lib.hid ha1
  have HA2 := Lib.hid ha2
  have HBB := Lib.hid hbb
  clear ha0 ha1 ha2 hbb
  obtain ⟨ka, kc, rfl, _, _⟩ := hkv.form
  rw [List.length_map, hq] at hkv ⊢
  obtain ⟨nK, hnK⟩ : ∃ z, K.length = z := ⟨_, rfl⟩
  have c2 : W.cell? ⟨g, 2, none⟩ = some (.slice (some ⟨kb, 0, none⟩) nK nK) := by rw [← hnK]; exact H.blk.cell rfl
  have c1 : W.cell? ⟨g, 1, none⟩ = some (.map (some bm)) := H.blk.cell rfl
  have hgl := H.lt.1
  have HH := Lib.hid H
  have HKV := Lib.hid hkv
  have HQ := Lib.hid hq
  have HA := Lib.hid ha
  have HZ := Lib.hid hz
  have HT := Lib.hid htk
  have HS := Lib.hid hs
  have HNK := Lib.hid hnK
  clear H hkv hq ha hz htk hs hnK
  go_enter Tryz.func38, Tryz.ntmps38
  go_wp2_with fail
  have BN : Hid (Blk (W.alloc (.cells #[.int .i64 25, .string (txt s), .int .i64 n, .slice ka nk kc] 40)) W.heap.size 40 #[.int .i64 25, .string (txt s), .int .i64 n, .slice ka nk kc]) := Lib.hid (Blk.new _ _ _)
  have BA : Hid (Blk ((W.alloc (.cells #[.int .i64 25, .string (txt s), .int .i64 n, .slice ka nk kc] 40)).alloc (.cells #[.int .i64 0, .int .i64 0, .int .i64 0] 108)) (W.heap.size + 1) 108 (AR a 0)) := Lib.hid (Blk.new_ (w := W.alloc (.cells #[.int .i64 25, .string (txt s), .int .i64 n, .slice ka nk kc] 40)) (by simp) _ _)
  have BN2 : Hid (Blk ((W.alloc (.cells #[.int .i64 25, .string (txt s), .int .i64 n, .slice ka nk kc] 40)).alloc (.cells #[.int .i64 0, .int .i64 0, .int .i64 0] 108)) W.heap.size 40 #[.int .i64 25, .string (txt s), .int .i64 n, .slice ka nk kc]) := Lib.hid (BN.out.alloc _)
  have B1 : Hid (Below W.heap.size W ((W.alloc (.cells #[.int .i64 25, .string (txt s), .int .i64 n, .slice ka nk kc] 40)).alloc (.cells #[.int .i64 0, .int .i64 0, .int .i64 0] 108))) := Lib.hid (((Below.refl _ _).alloc (Nat.le_refl _) _).alloc (by simp) _)
  generalize hW1 : (W.alloc (.cells #[.int .i64 25, .string (txt s), .int .i64 n, .slice ka nk kc] 40)).alloc (.cells #[.int .i64 0, .int .i64 0, .int .i64 0] 108) = W1 at *
  obtain ⟨q0, hq0⟩ : ∃ z, W.heap.size = z := ⟨_, rfl⟩
  rw [hq0] at BA BN2 ⊢
  clear hW1 BN c1 c2
  go_loopw [12] (fun v12 wr => ∃ i : Nat, i ≤ nk ∧ v12 = .int .i64 (i : Int) ∧ Hid (Blk wr (q0 + 1) 108 (AR a i) ∧ Blk wr q0 40 #[.int .i64 25, .string (txt s), .int .i64 n, .slice ka nk kc] ∧ Below W.heap.size W wr)) (fun v12 _ => nk - (intOf v12).toNat)
  case atStart => exact ⟨0, Nat.zero_le _, rfl, Lib.hid ⟨BA.out, BN2.out, B1.out⟩⟩
  case round =>
    obtain ⟨i, hi, rfl, h6⟩ := hrel
    have HB := Lib.hid (HH.out.below h6.out.2.2)
    have d1 : wr.cell? ⟨g, 1, none⟩ = some (.map (some bm)) := HB.out.blk.cell rfl
    have d2 : wr.cell? ⟨g, 2, none⟩ = some (.slice (some ⟨kb, 0, none⟩) nK nK) := by rw [← HNK.out]; exact HB.out.blk.cell rfl
    have n0 : wr.cell? ⟨q0, 0, none⟩ = some (.int .i64 25) := h6.out.2.1.cell rfl
    have n1 : wr.cell? ⟨q0, 1, none⟩ = some (.string (txt s)) := h6.out.2.1.cell rfl
    have n3 : wr.cell? ⟨q0, 3, none⟩ = some (.slice ka nk kc) := h6.out.2.1.cell rfl
    by_cases hlt : i < nk
    · obtain ⟨q, hqi⟩ := get_some HQ.out hlt
      have hqi' : (qs.map fun n : Nat => (n : Int))[i]? = some (q : Int) := by rw [List.getElem?_map, hqi]; rfl
      obtain ⟨b, off, x, rfl, hbB, hxl, rfl, hx⟩ := (HKV.out.below h6.out.2.2).at_ hqi'
      have x0 := hx 0 _ rfl
      simp only [Nat.add_zero, Nat.mul_one] at x0
      have hKq := HA.out i q hqi
      have y0 := HB.out.cell hKq
      have hql : q < nK := by rw [← HNK.out]; exact (List.getElem?_eq_some_iff.1 hKq).1
      have k0 : (0 : Int) ≤ (q : Int) := Int.natCast_nonneg _
      have k1 : (q : Int) < (nK : Int) := by omega
      have i0 : (0 : Int) ≤ (i : Int) := Int.natCast_nonneg _
      have i1 : (i : Int) < (nk : Int) := by omega
      have i3 : (i : Int) < 3 := by omega
      have i4 : i < 3 := by omega
      obtain ⟨u, hu⟩ : ∃ u, (AR a i)[i]? = some u := by
        rcases (by omega : i = 0 ∨ i = 1 ∨ i = 2) with rfl | rfl | rfl <;> exact ⟨_, rfl⟩
      have z0 : wr.cell? ⟨q0 + 1, i, none⟩ = some u := h6.out.1.cell hu
      have zf : wr.frozen? ⟨q0 + 1, i, none⟩ = false := h6.out.1.frozen i
      obtain ⟨ai, hai⟩ : ∃ z, a i = z := ⟨_, rfl⟩
      rw [hai] at y0
      have HAI := Lib.hid hai
      have HU := Lib.hid hu
      have ne : q0 + 1 ≠ q0 := by omega
      clear hqi hqi' hx hxl hKq hu hai
      go_wp2_with fail
      go_roundw
      case rel =>
        refine ⟨i + 1, by omega, by go_num, Lib.hid ⟨?_, h6.out.2.1.far (p := ⟨q0 + 1, i, none⟩) (by show q0 ≠ q0 + 1; omega) _, h6.out.2.2.setCell (p := ⟨q0 + 1, i, none⟩) (by show W.heap.size ≤ q0 + 1; omega) _⟩⟩
        have := h6.out.1.set_ i (.int .i64 (a i))
        rw [AR_set a i4, HAI.out] at this
        exact this
      case measure => simp [intOf]; omega
    · have hin : i = nk := by omega
      subst hin
      have hB := h6.out.1
      rw [AR_end HZ.out] at hB
      have hM := HB.out.bnd.at_
      have htw := Lib.hid (HT.out.block (h6.out.2.2.block 0 (by obtain ⟨t, fr, e⟩ := HT.out; rcases Nat.lt_or_ge 0 W.heap.size with h | h; exact h; rw [Array.getElem?_eq_none h] at e; cases e)))
      have BE := Lib.hid h6.out.2.2
      have HM := Lib.hid hM
      rw [HA0.out, HA1.out, HA2.out] at hB
      have o0 : wr.cell? ⟨q0 + 1, 0, none⟩ = some (.int .i64 a0) := hB.cell rfl
      have o1 : wr.cell? ⟨q0 + 1, 1, none⟩ = some (.int .i64 a1) := hB.cell rfl
      have o2 : wr.cell? ⟨q0 + 1, 2, none⟩ = some (.int .i64 a2) := hB.cell rfl
      have lo : q0 + 1 < wr.heap.size := hB.lt
      have lq : q0 < wr.heap.size := by omega
      clear hB hM h6 hlt hi
      by_cases hab : a0 = a1
      · subst hab
        have e1 : (a0 == a0) = true := by simp
        by_cases h1 : a0 = 1
        · subst h1
          have hv : kindP 25 bb 1 1 a2 = 3 := by unfold kindP; simp
          have HV := Lib.hid hv
          clear hv
          go_wp2_with fail
          go_ret
          exact ⟨by rw [HV.out]; try rfl, BE.out⟩
        · have e2 : (a0 == 1) = false := by simpa using h1
          by_cases h2 : a0 = 2
          · subst h2
            have hv : kindP 25 bb 2 2 a2 = 3 := by unfold kindP; simp
            have HV := Lib.hid hv
            clear hv
            go_wp2_with fail
            go_ret
            exact ⟨by rw [HV.out]; try rfl, BE.out⟩
          · have e3 : (a0 == 2) = false := by simpa using h2
            have hv : kindP 25 bb a0 a0 a2 = 0 := by unfold kindP; simp [h1, h2]
            have HV := Lib.hid hv
            clear hv h1 h2
            go_wp2_with fail
            go_ret
            exact ⟨by rw [HV.out]; try rfl, BE.out⟩
      · have e1 : (a0 == a1) = false := by simpa using hab
        have hv : kindP 25 bb a0 a1 a2 = 0 := by unfold kindP; simp [hab]
        have HV := Lib.hid hv
        clear hv hab
        go_wp2_with fail
        go_ret
        exact ⟨by rw [HV.out]; try rfl, BE.out⟩
set_option maxRecDepth 100000 in
set_option maxHeartbeats 8000000 in
theorem kindp_26 {W : World} {g bm kb fm nb nf nk : Nat} {lv kv : Value} {K : List Int} {vs F : List (List Nat)} {s : List Nat} {n : Int} {qs : List Nat} (H : KSt W g bm kb fm nb nf lv K vs F) (htk : TakesB W) (hs : NameOk s) (hkv : SlR W W.heap.size 1 IsI kv (qs.map fun n : Nat => (n : Int))) (hq : qs.length = nk) (hn3 : nk ≤ 3) (a : Nat → Int) (ha : ∀ i q, qs[i]? = some q → K[q]? = some (a i)) (hz : ∀ i, nk ≤ i → a i = 0) :
    Calls Tryz.prog 38 #[.pointer (some ⟨g, 0, none⟩), .agg #[.int .i64 26, .string (txt s), .int .i64 n, kv]] W fun e w' => e = .returned (.int .i64 (kindP 26 (decide (s ∈ vs)) (a 0) (a 1) (a 2))) ∧ Below W.heap.size W w' := by
  obtain ⟨a0, ha0⟩ : ∃ z, a 0 = z := ⟨_, rfl⟩
  obtain ⟨a1, ha1⟩ : ∃ z, a 1 = z := ⟨_, rfl⟩
  obtain ⟨a2, ha2⟩ : ∃ z, a 2 = z := ⟨_, rfl⟩
  obtain ⟨bb, hbb⟩ : ∃ z, decide (s ∈ vs) = z := ⟨_, rfl⟩
  rw [ha0, ha1, ha2, hbb]
  have HA0 := Lib.hid ha0
  have HA1 := Lib.hid ha1
  have HA2 := Lib.hid ha2
  have HBB := Lib.hid hbb
  clear ha0 ha1 ha2 hbb
  obtain ⟨ka, kc, rfl, _, _⟩ := hkv.form
  rw [List.length_map, hq] at hkv ⊢
  obtain ⟨nK, hnK⟩ : ∃ z, K.length = z := ⟨_, rfl⟩
  have c2 : W.cell? ⟨g, 2, none⟩ = some (.slice (some ⟨kb, 0, none⟩) nK nK) := by rw [← hnK]; exact H.blk.cell rfl
  have c1 : W.cell? ⟨g, 1, none⟩ = some (.map (some bm)) := H.blk.cell rfl
  have hgl := H.lt.1
  have HH := Lib.hid H
  have HKV := Lib.hid hkv
  have HQ := Lib.hid hq
  have HA := Lib.hid ha
  have HZ := Lib.hid hz
  have HT := Lib.hid htk
  have HS := Lib.hid hs
  have HNK := Lib.hid hnK
  clear H hkv hq ha hz htk hs hnK
  go_enter Tryz.func38, Tryz.ntmps38
  go_wp2_with fail
  have BN : Hid (Blk (W.alloc (.cells #[.int .i64 26, .string (txt s), .int .i64 n, .slice ka nk kc] 40)) W.heap.size 40 #[.int .i64 26, .string (txt s), .int .i64 n, .slice ka nk kc]) := Lib.hid (Blk.new _ _ _)
  have BA : Hid (Blk ((W.alloc (.cells #[.int .i64 26, .string (txt s), .int .i64 n, .slice ka nk kc] 40)).alloc (.cells #[.int .i64 0, .int .i64 0, .int .i64 0] 108)) (W.heap.size + 1) 108 (AR a 0)) := Lib.hid (Blk.new_ (w := W.alloc (.cells #[.int .i64 26, .string (txt s), .int .i64 n, .slice ka nk kc] 40)) (by simp) _ _)
  have BN2 : Hid (Blk ((W.alloc (.cells #[.int .i64 26, .string (txt s), .int .i64 n, .slice ka nk kc] 40)).alloc (.cells #[.int .i64 0, .int .i64 0, .int .i64 0] 108)) W.heap.size 40 #[.int .i64 26, .string (txt s), .int .i64 n, .slice ka nk kc]) := Lib.hid (BN.out.alloc _)
  have B1 : Hid (Below W.heap.size W ((W.alloc (.cells #[.int .i64 26, .string (txt s), .int .i64 n, .slice ka nk kc] 40)).alloc (.cells #[.int .i64 0, .int .i64 0, .int .i64 0] 108))) := Lib.hid (((Below.refl _ _).alloc (Nat.le_refl _) _).alloc (by simp) _)
  generalize hW1 : (W.alloc (.cells #[.int .i64 26, .string (txt s), .int .i64 n, .slice ka nk kc] 40)).alloc (.cells #[.int .i64 0, .int .i64 0, .int .i64 0] 108) = W1 at *
  obtain ⟨q0, hq0⟩ : ∃ z, W.heap.size = z := ⟨_, rfl⟩
  rw [hq0] at BA BN2 ⊢
  clear hW1 BN c1 c2
  go_loopw [12] (fun v12 wr => ∃ i : Nat, i ≤ nk ∧ v12 = .int .i64 (i : Int) ∧ Hid (Blk wr (q0 + 1) 108 (AR a i) ∧ Blk wr q0 40 #[.int .i64 26, .string (txt s), .int .i64 n, .slice ka nk kc] ∧ Below W.heap.size W wr)) (fun v12 _ => nk - (intOf v12).toNat)
  case atStart => exact ⟨0, Nat.zero_le _, rfl, Lib.hid ⟨BA.out, BN2.out, B1.out⟩⟩
  case round =>
    obtain ⟨i, hi, rfl, h6⟩ := hrel
    have HB := Lib.hid (HH.out.below h6.out.2.2)
    have d1 : wr.cell? ⟨g, 1, none⟩ = some (.map (some bm)) := HB.out.blk.cell rfl
    have d2 : wr.cell? ⟨g, 2, none⟩ = some (.slice (some ⟨kb, 0, none⟩) nK nK) := by rw [← HNK.out]; exact HB.out.blk.cell rfl
    have n0 : wr.cell? ⟨q0, 0, none⟩ = some (.int .i64 26) := h6.out.2.1.cell rfl
    have n1 : wr.cell? ⟨q0, 1, none⟩ = some (.string (txt s)) := h6.out.2.1.cell rfl
    have n3 : wr.cell? ⟨q0, 3, none⟩ = some (.slice ka nk kc) := h6.out.2.1.cell rfl
    by_cases hlt : i < nk
    · obtain ⟨q, hqi⟩ := get_some HQ.out hlt
      have hqi' : (qs.map fun n : Nat => (n : Int))[i]? = some (q : Int) := by rw [List.getElem?_map, hqi]; rfl
      obtain ⟨b, off, x, rfl, hbB, hxl, rfl, hx⟩ := (HKV.out.below h6.out.2.2).at_ hqi'
      have x0 := hx 0 _ rfl
      simp only [Nat.add_zero, Nat.mul_one] at x0
      have hKq := HA.out i q hqi
      have y0 := HB.out.cell hKq
      have hql : q < nK := by rw [← HNK.out]; exact (List.getElem?_eq_some_iff.1 hKq).1
      have k0 : (0 : Int) ≤ (q : Int) := Int.natCast_nonneg _
      have k1 : (q : Int) < (nK : Int) := by omega
      have i0 : (0 : Int) ≤ (i : Int) := Int.natCast_nonneg _
      have i1 : (i : Int) < (nk : Int) := by omega
      have i3 : (i : Int) < 3 := by omega
      have i4 : i < 3 := by omega
      obtain ⟨u, hu⟩ : ∃ u, (AR a i)[i]? = some u := by
        rcases (by omega : i = 0 ∨ i = 1 ∨ i = 2) with rfl | rfl | rfl <;> exact ⟨_, rfl⟩
      have z0 : wr.cell? ⟨q0 + 1, i, none⟩ = some u := h6.out.1.cell hu
      have zf : wr.frozen? ⟨q0 + 1, i, none⟩ = false := h6.out.1.frozen i
      obtain ⟨ai, hai⟩ : ∃ z, a i = z := ⟨_, rfl⟩
      rw [hai] at y0
      have HAI := Lib.hid hai
      have HU := Lib.hid hu
      have ne : q0 + 1 ≠ q0 := by omega
      clear hqi hqi' hx hxl hKq hu hai
      go_wp2_with fail
      go_roundw
      case rel =>
        refine ⟨i + 1, by omega, by go_num, Lib.hid ⟨?_, h6.out.2.1.far (p := ⟨q0 + 1, i, none⟩) (by show q0 ≠ q0 + 1; omega) _, h6.out.2.2.setCell (p := ⟨q0 + 1, i, none⟩) (by show W.heap.size ≤ q0 + 1; omega) _⟩⟩
        have := h6.out.1.set_ i (.int .i64 (a i))
        rw [AR_set a i4, HAI.out] at this
        exact this
      case measure => simp [intOf]; omega
    · have hin : i = nk := by omega
      subst hin
      have hB := h6.out.1
      rw [AR_end HZ.out] at hB
      have hM := HB.out.bnd.at_
      have htw := Lib.hid (HT.out.block (h6.out.2.2.block 0 (by obtain ⟨t, fr, e⟩ := HT.out; rcases Nat.lt_or_ge 0 W.heap.size with h | h; exact h; rw [Array.getElem?_eq_none h] at e; cases e)))
      have BE := Lib.hid h6.out.2.2
      have HM := Lib.hid hM
      rw [HA0.out, HA1.out, HA2.out] at hB
      have o0 : wr.cell? ⟨q0 + 1, 0, none⟩ = some (.int .i64 a0) := hB.cell rfl
      have o1 : wr.cell? ⟨q0 + 1, 1, none⟩ = some (.int .i64 a1) := hB.cell rfl
      have o2 : wr.cell? ⟨q0 + 1, 2, none⟩ = some (.int .i64 a2) := hB.cell rfl
      have lo : q0 + 1 < wr.heap.size := hB.lt
      have lq : q0 < wr.heap.size := by omega
      clear hB hM h6 hlt hi
      by_cases hab : a0 = a1
      · subst hab
        have e1 : (a0 == a0) = true := by simp
        by_cases h1 : a0 = 1
        · subst h1
          have hv : kindP 26 bb 1 1 a2 = 3 := by unfold kindP; simp
          have HV := Lib.hid hv
          clear hv
          go_wp2_with fail
          go_ret
          exact ⟨by rw [HV.out]; try rfl, BE.out⟩
        · have e2 : (a0 == 1) = false := by simpa using h1
          by_cases h2 : a0 = 2
          · subst h2
            have hv : kindP 26 bb 2 2 a2 = 3 := by unfold kindP; simp
            have HV := Lib.hid hv
            clear hv
            go_wp2_with fail
            go_ret
            exact ⟨by rw [HV.out]; try rfl, BE.out⟩
          · have e3 : (a0 == 2) = false := by simpa using h2
            have hv : kindP 26 bb a0 a0 a2 = 0 := by unfold kindP; simp [h1, h2]
            have HV := Lib.hid hv
            clear hv h1 h2
            go_wp2_with fail
            go_ret
            exact ⟨by rw [HV.out]; try rfl, BE.out⟩
      · have e1 : (a0 == a1) = false := by simpa using hab
        have hv : kindP 26 bb a0 a1 a2 = 0 := by unfold kindP; simp [hab]
        have HV := Lib.hid hv
        clear hv hab
        go_wp2_with fail
        go_ret
        exact ⟨by rw [HV.out]; try rfl, BE.out⟩
set_option maxRecDepth 100000 in
set_option maxHeartbeats 8000000 in
theorem kindp_23 {W : World} {g bm kb fm nb nf nk : Nat} {lv kv : Value} {K : List Int} {vs F : List (List Nat)} {s : List Nat} {n : Int} {qs : List Nat} (H : KSt W g bm kb fm nb nf lv K vs F) (htk : TakesB W) (hs : NameOk s) (hkv : SlR W W.heap.size 1 IsI kv (qs.map fun n : Nat => (n : Int))) (hq : qs.length = nk) (hn3 : nk ≤ 3) (a : Nat → Int) (ha : ∀ i q, qs[i]? = some q → K[q]? = some (a i)) (hz : ∀ i, nk ≤ i → a i = 0) :
    Calls Tryz.prog 38 #[.pointer (some ⟨g, 0, none⟩), .agg #[.int .i64 23, .string (txt s), .int .i64 n, kv]] W fun e w' => e = .returned (.int .i64 (kindP 23 (decide (s ∈ vs)) (a 0) (a 1) (a 2))) ∧ Below W.heap.size W w' := by
  obtain ⟨a0, ha0⟩ : ∃ z, a 0 = z := ⟨_, rfl⟩
  obtain ⟨a1, ha1⟩ : ∃ z, a 1 = z := ⟨_, rfl⟩
  obtain ⟨a2, ha2⟩ : ∃ z, a 2 = z := ⟨_, rfl⟩
  obtain ⟨bb, hbb⟩ : ∃ z, decide (s ∈ vs) = z := ⟨_, rfl⟩
  rw [ha0, ha1, ha2, hbb]
  have HA0 := Lib.hid ha0
  have HA1 := Lib.hid ha1
  have HA2 := Lib.hid ha2
  have HBB := Lib.hid hbb
  clear ha0 ha1 ha2 hbb
  obtain ⟨ka, kc, rfl, _, _⟩ := hkv.form
  rw [List.length_map, hq] at hkv ⊢
  obtain ⟨nK, hnK⟩ : ∃ z, K.length = z := ⟨_, rfl⟩
  have c2 : W.cell? ⟨g, 2, none⟩ = some (.slice (some ⟨kb, 0, none⟩) nK nK) := by rw [← hnK]; exact H.blk.cell rfl
  have c1 : W.cell? ⟨g, 1, none⟩ = some (.map (some bm)) := H.blk.cell rfl
  have hgl := H.lt.1
  have HH := Lib.hid H
  have HKV := Lib.hid hkv
  have HQ := Lib.hid hq
  have HA := Lib.hid ha
  have HZ := Lib.hid hz
  have HT := Lib.hid htk
  have HS := Lib.hid hs
  have HNK := Lib.hid hnK
  clear H hkv hq ha hz htk hs hnK
  go_enter Tryz.func38, Tryz.ntmps38
  go_wp2_with fail
  have BN : Hid (Blk (W.alloc (.cells #[.int .i64 23, .string (txt s), .int .i64 n, .slice ka nk kc] 40)) W.heap.size 40 #[.int .i64 23, .string (txt s), .int .i64 n, .slice ka nk kc]) := Lib.hid (Blk.new _ _ _)
  have BA : Hid (Blk ((W.alloc (.cells #[.int .i64 23, .string (txt s), .int .i64 n, .slice ka nk kc] 40)).alloc (.cells #[.int .i64 0, .int .i64 0, .int .i64 0] 108)) (W.heap.size + 1) 108 (AR a 0)) := Lib.hid (Blk.new_ (w := W.alloc (.cells #[.int .i64 23, .string (txt s), .int .i64 n, .slice ka nk kc] 40)) (by simp) _ _)
  have BN2 : Hid (Blk ((W.alloc (.cells #[.int .i64 23, .string (txt s), .int .i64 n, .slice ka nk kc] 40)).alloc (.cells #[.int .i64 0, .int .i64 0, .int .i64 0] 108)) W.heap.size 40 #[.int .i64 23, .string (txt s), .int .i64 n, .slice ka nk kc]) := Lib.hid (BN.out.alloc _)
  have B1 : Hid (Below W.heap.size W ((W.alloc (.cells #[.int .i64 23, .string (txt s), .int .i64 n, .slice ka nk kc] 40)).alloc (.cells #[.int .i64 0, .int .i64 0, .int .i64 0] 108))) := Lib.hid (((Below.refl _ _).alloc (Nat.le_refl _) _).alloc (by simp) _)
  generalize hW1 : (W.alloc (.cells #[.int .i64 23, .string (txt s), .int .i64 n, .slice ka nk kc] 40)).alloc (.cells #[.int .i64 0, .int .i64 0, .int .i64 0] 108) = W1 at *
  obtain ⟨q0, hq0⟩ : ∃ z, W.heap.size = z := ⟨_, rfl⟩
  rw [hq0] at BA BN2 ⊢
  clear hW1 BN c1 c2
  go_loopw [12] (fun v12 wr => ∃ i : Nat, i ≤ nk ∧ v12 = .int .i64 (i : Int) ∧ Hid (Blk wr (q0 + 1) 108 (AR a i) ∧ Blk wr q0 40 #[.int .i64 23, .string (txt s), .int .i64 n, .slice ka nk kc] ∧ Below W.heap.size W wr)) (fun v12 _ => nk - (intOf v12).toNat)
  case atStart => exact ⟨0, Nat.zero_le _, rfl, Lib.hid ⟨BA.out, BN2.out, B1.out⟩⟩
  case round =>
    obtain ⟨i, hi, rfl, h6⟩ := hrel
    have HB := Lib.hid (HH.out.below h6.out.2.2)
    have d1 : wr.cell? ⟨g, 1, none⟩ = some (.map (some bm)) := HB.out.blk.cell rfl
    have d2 : wr.cell? ⟨g, 2, none⟩ = some (.slice (some ⟨kb, 0, none⟩) nK nK) := by rw [← HNK.out]; exact HB.out.blk.cell rfl
    have n0 : wr.cell? ⟨q0, 0, none⟩ = some (.int .i64 23) := h6.out.2.1.cell rfl
    have n1 : wr.cell? ⟨q0, 1, none⟩ = some (.string (txt s)) := h6.out.2.1.cell rfl
    have n3 : wr.cell? ⟨q0, 3, none⟩ = some (.slice ka nk kc) := h6.out.2.1.cell rfl
    by_cases hlt : i < nk
    · obtain ⟨q, hqi⟩ := get_some HQ.out hlt
      have hqi' : (qs.map fun n : Nat => (n : Int))[i]? = some (q : Int) := by rw [List.getElem?_map, hqi]; rfl
      obtain ⟨b, off, x, rfl, hbB, hxl, rfl, hx⟩ := (HKV.out.below h6.out.2.2).at_ hqi'
      have x0 := hx 0 _ rfl
      simp only [Nat.add_zero, Nat.mul_one] at x0
      have hKq := HA.out i q hqi
      have y0 := HB.out.cell hKq
      have hql : q < nK := by rw [← HNK.out]; exact (List.getElem?_eq_some_iff.1 hKq).1
      have k0 : (0 : Int) ≤ (q : Int) := Int.natCast_nonneg _
      have k1 : (q : Int) < (nK : Int) := by omega
      have i0 : (0 : Int) ≤ (i : Int) := Int.natCast_nonneg _
      have i1 : (i : Int) < (nk : Int) := by omega
      have i3 : (i : Int) < 3 := by omega
      have i4 : i < 3 := by omega
      obtain ⟨u, hu⟩ : ∃ u, (AR a i)[i]? = some u := by
        rcases (by omega : i = 0 ∨ i = 1 ∨ i = 2) with rfl | rfl | rfl <;> exact ⟨_, rfl⟩
      have z0 : wr.cell? ⟨q0 + 1, i, none⟩ = some u := h6.out.1.cell hu
      have zf : wr.frozen? ⟨q0 + 1, i, none⟩ = false := h6.out.1.frozen i
      obtain ⟨ai, hai⟩ : ∃ z, a i = z := ⟨_, rfl⟩
      rw [hai] at y0
      have HAI := Lib.hid hai
      have HU := Lib.hid hu
      have ne : q0 + 1 ≠ q0 := by omega
      clear hqi hqi' hx hxl hKq hu hai
      go_wp2_with fail
      go_roundw
      case rel =>
        refine ⟨i + 1, by omega, by go_num, Lib.hid ⟨?_, h6.out.2.1.far (p := ⟨q0 + 1, i, none⟩) (by show q0 ≠ q0 + 1; omega) _, h6.out.2.2.setCell (p := ⟨q0 + 1, i, none⟩) (by show W.heap.size ≤ q0 + 1; omega) _⟩⟩
        have := h6.out.1.set_ i (.int .i64 (a i))
        rw [AR_set a i4, HAI.out] at this
        exact this
      case measure => simp [intOf]; omega
    · have hin : i = nk := by omega
      subst hin
      have hB := h6.out.1
      rw [AR_end HZ.out] at hB
      have hM := HB.out.bnd.at_
      have htw := Lib.hid (HT.out.block (h6.out.2.2.block 0 (by obtain ⟨t, fr, e⟩ := HT.out; rcases Nat.lt_or_ge 0 W.heap.size with h | h; exact h; rw [Array.getElem?_eq_none h] at e; cases e)))
      have BE := Lib.hid h6.out.2.2
      have HM := Lib.hid hM
      rw [HA0.out, HA1.out, HA2.out] at hB
      have o0 : wr.cell? ⟨q0 + 1, 0, none⟩ = some (.int .i64 a0) := hB.cell rfl
      have o1 : wr.cell? ⟨q0 + 1, 1, none⟩ = some (.int .i64 a1) := hB.cell rfl
      have o2 : wr.cell? ⟨q0 + 1, 2, none⟩ = some (.int .i64 a2) := hB.cell rfl
      have lo : q0 + 1 < wr.heap.size := hB.lt
      have lq : q0 < wr.heap.size := by omega
      clear hB hM h6 hlt hi
      by_cases hab : a0 = a1
      · subst hab
        have e1 : (a0 == a0) = true := by simp
        by_cases h1 : a0 = 5
        · subst h1
          have hv : kindP 23 bb 5 5 a2 = 0 := by unfold kindP; simp
          have HV := Lib.hid hv
          clear hv
          go_wp2_with fail
          go_ret
          exact ⟨by rw [HV.out]; try rfl, BE.out⟩
        · have e2 : (a0 != 5) = true := by simpa using h1
          have hv : kindP 23 bb a0 a0 a2 = 3 := by unfold kindP; simp [h1]
          have HV := Lib.hid hv
          clear hv h1
          go_wp2_with fail
          go_ret
          exact ⟨by rw [HV.out]; try rfl, BE.out⟩
      · have e1 : (a0 == a1) = false := by simpa using hab
        have hv : kindP 23 bb a0 a1 a2 = 0 := by unfold kindP; simp [hab]
        have HV := Lib.hid hv
        clear hv hab
        go_wp2_with fail
        go_ret
        exact ⟨by rw [HV.out]; try rfl, BE.out⟩
set_option maxRecDepth 100000 in
set_option maxHeartbeats 8000000 in
theorem kindp_24 {W : World} {g bm kb fm nb nf nk : Nat} {lv kv : Value} {K : List Int} {vs F : List (List Nat)} {s : List Nat} {n : Int} {qs : List Nat} (H : KSt W g bm kb fm nb nf lv K vs F) (htk : TakesB W) (hs : NameOk s) (hkv : SlR W W.heap.size 1 IsI kv (qs.map fun n : Nat => (n : Int))) (hq : qs.length = nk) (hn3 : nk ≤ 3) (a : Nat → Int) (ha : ∀ i q, qs[i]? = some q → K[q]? = some (a i)) (hz : ∀ i, nk ≤ i → a i = 0) :
    Calls Tryz.prog 38 #[.pointer (some ⟨g, 0, none⟩), .agg #[.int .i64 24, .string (txt s), .int .i64 n, kv]] W fun e w' => e = .returned (.int .i64 (kindP 24 (decide (s ∈ vs)) (a 0) (a 1) (a 2))) ∧ Below W.heap.size W w' := by
  obtain ⟨a0, ha0⟩ : ∃ z, a 0 = z := ⟨_, rfl⟩
  obtain ⟨a1, ha1⟩ : ∃ z, a 1 = z := ⟨_, rfl⟩
  obtain ⟨a2, ha2⟩ : ∃ z, a 2 = z := ⟨_, rfl⟩
  obtain ⟨bb, hbb⟩ : ∃ z, decide (s ∈ vs) = z := ⟨_, rfl⟩
  rw [ha0, ha1, ha2, hbb]
  have HA0 := Lib.hid ha0
  have HA1 := Lib.hid ha1
  have HA2 := Lib.hid ha2
  have HBB := Lib.hid hbb
  clear ha0 ha1 ha2 hbb
  obtain ⟨ka, kc, rfl, _, _⟩ := hkv.form
  rw [List.length_map, hq] at hkv ⊢
  obtain ⟨nK, hnK⟩ : ∃ z, K.length = z := ⟨_, rfl⟩
  have c2 : W.cell? ⟨g, 2, none⟩ = some (.slice (some ⟨kb, 0, none⟩) nK nK) := by rw [← hnK]; exact H.blk.cell rfl
  have c1 : W.cell? ⟨g, 1, none⟩ = some (.map (some bm)) := H.blk.cell rfl
  have hgl := H.lt.1
  have HH := Lib.hid H
  have HKV := Lib.hid hkv
  have HQ := Lib.hid hq
  have HA := Lib.hid ha
  have HZ := Lib.hid hz
  have HT := Lib.hid htk
  have HS := Lib.hid hs
  have HNK := Lib.hid hnK
  clear H hkv hq ha hz htk hs hnK
  go_enter Tryz.func38, Tryz.ntmps38
  go_wp2_with fail
  have BN : Hid (Blk (W.alloc (.cells #[.int .i64 24, .string (txt s), .int .i64 n, .slice ka nk kc] 40)) W.heap.size 40 #[.int .i64 24, .string (txt s), .int .i64 n, .slice ka nk kc]) := Lib.hid (Blk.new _ _ _)
  have BA : Hid (Blk ((W.alloc (.cells #[.int .i64 24, .string (txt s), .int .i64 n, .slice ka nk kc] 40)).alloc (.cells #[.int .i64 0, .int .i64 0, .int .i64 0] 108)) (W.heap.size + 1) 108 (AR a 0)) := Lib.hid (Blk.new_ (w := W.alloc (.cells #[.int .i64 24, .string (txt s), .int .i64 n, .slice ka nk kc] 40)) (by simp) _ _)
  have BN2 : Hid (Blk ((W.alloc (.cells #[.int .i64 24, .string (txt s), .int .i64 n, .slice ka nk kc] 40)).alloc (.cells #[.int .i64 0, .int .i64 0, .int .i64 0] 108)) W.heap.size 40 #[.int .i64 24, .string (txt s), .int .i64 n, .slice ka nk kc]) := Lib.hid (BN.out.alloc _)
  have B1 : Hid (Below W.heap.size W ((W.alloc (.cells #[.int .i64 24, .string (txt s), .int .i64 n, .slice ka nk kc] 40)).alloc (.cells #[.int .i64 0, .int .i64 0, .int .i64 0] 108))) := Lib.hid (((Below.refl _ _).alloc (Nat.le_refl _) _).alloc (by simp) _)
  generalize hW1 : (W.alloc (.cells #[.int .i64 24, .string (txt s), .int .i64 n, .slice ka nk kc] 40)).alloc (.cells #[.int .i64 0, .int .i64 0, .int .i64 0] 108) = W1 at *
  obtain ⟨q0, hq0⟩ : ∃ z, W.heap.size = z := ⟨_, rfl⟩
  rw [hq0] at BA BN2 ⊢
  clear hW1 BN c1 c2
  go_loopw [12] (fun v12 wr => ∃ i : Nat, i ≤ nk ∧ v12 = .int .i64 (i : Int) ∧ Hid (Blk wr (q0 + 1) 108 (AR a i) ∧ Blk wr q0 40 #[.int .i64 24, .string (txt s), .int .i64 n, .slice ka nk kc] ∧ Below W.heap.size W wr)) (fun v12 _ => nk - (intOf v12).toNat)
  case atStart => exact ⟨0, Nat.zero_le _, rfl, Lib.hid ⟨BA.out, BN2.out, B1.out⟩⟩
  case round =>
    obtain ⟨i, hi, rfl, h6⟩ := hrel
    have HB := Lib.hid (HH.out.below h6.out.2.2)
    have d1 : wr.cell? ⟨g, 1, none⟩ = some (.map (some bm)) := HB.out.blk.cell rfl
    have d2 : wr.cell? ⟨g, 2, none⟩ = some (.slice (some ⟨kb, 0, none⟩) nK nK) := by rw [← HNK.out]; exact HB.out.blk.cell rfl
    have n0 : wr.cell? ⟨q0, 0, none⟩ = some (.int .i64 24) := h6.out.2.1.cell rfl
    have n1 : wr.cell? ⟨q0, 1, none⟩ = some (.string (txt s)) := h6.out.2.1.cell rfl
    have n3 : wr.cell? ⟨q0, 3, none⟩ = some (.slice ka nk kc) := h6.out.2.1.cell rfl
    by_cases hlt : i < nk
    · obtain ⟨q, hqi⟩ := get_some HQ.out hlt
      have hqi' : (qs.map fun n : Nat => (n : Int))[i]? = some (q : Int) := by rw [List.getElem?_map, hqi]; rfl
      obtain ⟨b, off, x, rfl, hbB, hxl, rfl, hx⟩ := (HKV.out.below h6.out.2.2).at_ hqi'
      have x0 := hx 0 _ rfl
      simp only [Nat.add_zero, Nat.mul_one] at x0
      have hKq := HA.out i q hqi
      have y0 := HB.out.cell hKq
      have hql : q < nK := by rw [← HNK.out]; exact (List.getElem?_eq_some_iff.1 hKq).1
      have k0 : (0 : Int) ≤ (q : Int) := Int.natCast_nonneg _
      have k1 : (q : Int) < (nK : Int) := by omega
      have i0 : (0 : Int) ≤ (i : Int) := Int.natCast_nonneg _
      have i1 : (i : Int) < (nk : Int) := by omega
      have i3 : (i : Int) < 3 := by omega
      have i4 : i < 3 := by omega
      obtain ⟨u, hu⟩ : ∃ u, (AR a i)[i]? = some u := by
        rcases (by omega : i = 0 ∨ i = 1 ∨ i = 2) with rfl | rfl | rfl <;> exact ⟨_, rfl⟩
      have z0 : wr.cell? ⟨q0 + 1, i, none⟩ = some u := h6.out.1.cell hu
      have zf : wr.frozen? ⟨q0 + 1, i, none⟩ = false := h6.out.1.frozen i
      obtain ⟨ai, hai⟩ : ∃ z, a i = z := ⟨_, rfl⟩
      rw [hai] at y0
      have HAI := Lib.hid hai
      have HU := Lib.hid hu
      have ne : q0 + 1 ≠ q0 := by omega
      clear hqi hqi' hx hxl hKq hu hai
      go_wp2_with fail
      go_roundw
      case rel =>
        refine ⟨i + 1, by omega, by go_num, Lib.hid ⟨?_, h6.out.2.1.far (p := ⟨q0 + 1, i, none⟩) (by show q0 ≠ q0 + 1; omega) _, h6.out.2.2.setCell (p := ⟨q0 + 1, i, none⟩) (by show W.heap.size ≤ q0 + 1; omega) _⟩⟩
        have := h6.out.1.set_ i (.int .i64 (a i))
        rw [AR_set a i4, HAI.out] at this
        exact this
      case measure => simp [intOf]; omega
    · have hin : i = nk := by omega
      subst hin
      have hB := h6.out.1
      rw [AR_end HZ.out] at hB
      have hM := HB.out.bnd.at_
      have htw := Lib.hid (HT.out.block (h6.out.2.2.block 0 (by obtain ⟨t, fr, e⟩ := HT.out; rcases Nat.lt_or_ge 0 W.heap.size with h | h; exact h; rw [Array.getElem?_eq_none h] at e; cases e)))
      have BE := Lib.hid h6.out.2.2
      have HM := Lib.hid hM
      rw [HA0.out, HA1.out, HA2.out] at hB
      have o0 : wr.cell? ⟨q0 + 1, 0, none⟩ = some (.int .i64 a0) := hB.cell rfl
      have o1 : wr.cell? ⟨q0 + 1, 1, none⟩ = some (.int .i64 a1) := hB.cell rfl
      have o2 : wr.cell? ⟨q0 + 1, 2, none⟩ = some (.int .i64 a2) := hB.cell rfl
      have lo : q0 + 1 < wr.heap.size := hB.lt
      have lq : q0 < wr.heap.size := by omega
      clear hB hM h6 hlt hi
      by_cases hab : a0 = a1
      · subst hab
        have e1 : (a0 == a0) = true := by simp
        by_cases h1 : a0 = 5
        · subst h1
          have hv : kindP 24 bb 5 5 a2 = 0 := by unfold kindP; simp
          have HV := Lib.hid hv
          clear hv
          go_wp2_with fail
          go_ret
          exact ⟨by rw [HV.out]; try rfl, BE.out⟩
        · have e2 : (a0 != 5) = true := by simpa using h1
          have hv : kindP 24 bb a0 a0 a2 = 3 := by unfold kindP; simp [h1]
          have HV := Lib.hid hv
          clear hv h1
          go_wp2_with fail
          go_ret
          exact ⟨by rw [HV.out]; try rfl, BE.out⟩
      · have e1 : (a0 == a1) = false := by simpa using hab
        have hv : kindP 24 bb a0 a1 a2 = 0 := by unfold kindP; simp [hab]
        have HV := Lib.hid hv
        clear hv hab
        go_wp2_with fail
        go_ret
        exact ⟨by rw [HV.out]; try rfl, BE.out⟩
set_option maxRecDepth 100000 in
set_option maxHeartbeats 8000000 in
theorem kindp_30 {W : World} {g bm kb fm nb nf nk : Nat} {lv kv : Value} {K : List Int} {vs F : List (List Nat)} {s : List Nat} {n : Int} {qs : List Nat} (H : KSt W g bm kb fm nb nf lv K vs F) (htk : TakesB W) (hs : NameOk s) (hkv : SlR W W.heap.size 1 IsI kv (qs.map fun n : Nat => (n : Int))) (hq : qs.length = nk) (hn3 : nk ≤ 3) (a : Nat → Int) (ha : ∀ i q, qs[i]? = some q → K[q]? = some (a i)) (hz : ∀ i, nk ≤ i → a i = 0) :
    Calls Tryz.prog 38 #[.pointer (some ⟨g, 0, none⟩), .agg #[.int .i64 30, .string (txt s), .int .i64 n, kv]] W fun e w' => e = .returned (.int .i64 (kindP 30 (decide (s ∈ vs)) (a 0) (a 1) (a 2))) ∧ Below W.heap.size W w' := by
  obtain ⟨a0, ha0⟩ : ∃ z, a 0 = z := ⟨_, rfl⟩
  obtain ⟨a1, ha1⟩ : ∃ z, a 1 = z := ⟨_, rfl⟩
  obtain ⟨a2, ha2⟩ : ∃ z, a 2 = z := ⟨_, rfl⟩
  obtain ⟨bb, hbb⟩ : ∃ z, decide (s ∈ vs) = z := ⟨_, rfl⟩
  rw [ha0, ha1, ha2, hbb]
  have HA0 := Lib.hid ha0
  have HA1 := Lib.hid ha1
  have HA2 := Lib.hid ha2
  have HBB := Lib.hid hbb
  clear ha0 ha1 ha2 hbb
  obtain ⟨ka, kc, rfl, _, _⟩ := hkv.form
  rw [List.length_map, hq] at hkv ⊢
  obtain ⟨nK, hnK⟩ : ∃ z, K.length = z := ⟨_, rfl⟩
  have c2 : W.cell? ⟨g, 2, none⟩ = some (.slice (some ⟨kb, 0, none⟩) nK nK) := by rw [← hnK]; exact H.blk.cell rfl
  have c1 : W.cell? ⟨g, 1, none⟩ = some (.map (some bm)) := H.blk.cell rfl
  have hgl := H.lt.1
  have HH := Lib.hid H
  have HKV := Lib.hid hkv
  have HQ := Lib.hid hq
  have HA := Lib.hid ha
  have HZ := Lib.hid hz
  have HT := Lib.hid htk
  have HS := Lib.hid hs
  have HNK := Lib.hid hnK
  clear H hkv hq ha hz htk hs hnK
  go_enter Tryz.func38, Tryz.ntmps38
  go_wp2_with fail
  have BN : Hid (Blk (W.alloc (.cells #[.int .i64 30, .string (txt s), .int .i64 n, .slice ka nk kc] 40)) W.heap.size 40 #[.int .i64 30, .string (txt s), .int .i64 n, .slice ka nk kc]) := Lib.hid (Blk.new _ _ _)
  have BA : Hid (Blk ((W.alloc (.cells #[.int .i64 30, .string (txt s), .int .i64 n, .slice ka nk kc] 40)).alloc (.cells #[.int .i64 0, .int .i64 0, .int .i64 0] 108)) (W.heap.size + 1) 108 (AR a 0)) := Lib.hid (Blk.new_ (w := W.alloc (.cells #[.int .i64 30, .string (txt s), .int .i64 n, .slice ka nk kc] 40)) (by simp) _ _)
  have BN2 : Hid (Blk ((W.alloc (.cells #[.int .i64 30, .string (txt s), .int .i64 n, .slice ka nk kc] 40)).alloc (.cells #[.int .i64 0, .int .i64 0, .int .i64 0] 108)) W.heap.size 40 #[.int .i64 30, .string (txt s), .int .i64 n, .slice ka nk kc]) := Lib.hid (BN.out.alloc _)
  have B1 : Hid (Below W.heap.size W ((W.alloc (.cells #[.int .i64 30, .string (txt s), .int .i64 n, .slice ka nk kc] 40)).alloc (.cells #[.int .i64 0, .int .i64 0, .int .i64 0] 108))) := Lib.hid (((Below.refl _ _).alloc (Nat.le_refl _) _).alloc (by simp) _)
  generalize hW1 : (W.alloc (.cells #[.int .i64 30, .string (txt s), .int .i64 n, .slice ka nk kc] 40)).alloc (.cells #[.int .i64 0, .int .i64 0, .int .i64 0] 108) = W1 at *
  obtain ⟨q0, hq0⟩ : ∃ z, W.heap.size = z := ⟨_, rfl⟩
  rw [hq0] at BA BN2 ⊢
  clear hW1 BN c1 c2
  go_loopw [12] (fun v12 wr => ∃ i : Nat, i ≤ nk ∧ v12 = .int .i64 (i : Int) ∧ Hid (Blk wr (q0 + 1) 108 (AR a i) ∧ Blk wr q0 40 #[.int .i64 30, .string (txt s), .int .i64 n, .slice ka nk kc] ∧ Below W.heap.size W wr)) (fun v12 _ => nk - (intOf v12).toNat)
  case atStart => exact ⟨0, Nat.zero_le _, rfl, Lib.hid ⟨BA.out, BN2.out, B1.out⟩⟩
  case round =>
    obtain ⟨i, hi, rfl, h6⟩ := hrel
    have HB := Lib.hid (HH.out.below h6.out.2.2)
    have d1 : wr.cell? ⟨g, 1, none⟩ = some (.map (some bm)) := HB.out.blk.cell rfl
    have d2 : wr.cell? ⟨g, 2, none⟩ = some (.slice (some ⟨kb, 0, none⟩) nK nK) := by rw [← HNK.out]; exact HB.out.blk.cell rfl
    have n0 : wr.cell? ⟨q0, 0, none⟩ = some (.int .i64 30) := h6.out.2.1.cell rfl
    have n1 : wr.cell? ⟨q0, 1, none⟩ = some (.string (txt s)) := h6.out.2.1.cell rfl
    have n3 : wr.cell? ⟨q0, 3, none⟩ = some (.slice ka nk kc) := h6.out.2.1.cell rfl
    by_cases hlt : i < nk
    · obtain ⟨q, hqi⟩ := get_some HQ.out hlt
      have hqi' : (qs.map fun n : Nat => (n : Int))[i]? = some (q : Int) := by rw [List.getElem?_map, hqi]; rfl
      obtain ⟨b, off, x, rfl, hbB, hxl, rfl, hx⟩ := (HKV.out.below h6.out.2.2).at_ hqi'
      have x0 := hx 0 _ rfl
      simp only [Nat.add_zero, Nat.mul_one] at x0
      have hKq := HA.out i q hqi
      have y0 := HB.out.cell hKq
      have hql : q < nK := by rw [← HNK.out]; exact (List.getElem?_eq_some_iff.1 hKq).1
      have k0 : (0 : Int) ≤ (q : Int) := Int.natCast_nonneg _
      have k1 : (q : Int) < (nK : Int) := by omega
      have i0 : (0 : Int) ≤ (i : Int) := Int.natCast_nonneg _
      have i1 : (i : Int) < (nk : Int) := by omega
      have i3 : (i : Int) < 3 := by omega
      have i4 : i < 3 := by omega
      obtain ⟨u, hu⟩ : ∃ u, (AR a i)[i]? = some u := by
        rcases (by omega : i = 0 ∨ i = 1 ∨ i = 2) with rfl | rfl | rfl <;> exact ⟨_, rfl⟩
      have z0 : wr.cell? ⟨q0 + 1, i, none⟩ = some u := h6.out.1.cell hu
      have zf : wr.frozen? ⟨q0 + 1, i, none⟩ = false := h6.out.1.frozen i
      obtain ⟨ai, hai⟩ : ∃ z, a i = z := ⟨_, rfl⟩
      rw [hai] at y0
      have HAI := Lib.hid hai
      have HU := Lib.hid hu
      have ne : q0 + 1 ≠ q0 := by omega
      clear hqi hqi' hx hxl hKq hu hai
      go_wp2_with fail
      go_roundw
      case rel =>
        refine ⟨i + 1, by omega, by go_num, Lib.hid ⟨?_, h6.out.2.1.far (p := ⟨q0 + 1, i, none⟩) (by show q0 ≠ q0 + 1; omega) _, h6.out.2.2.setCell (p := ⟨q0 + 1, i, none⟩) (by show W.heap.size ≤ q0 + 1; omega) _⟩⟩
        have := h6.out.1.set_ i (.int .i64 (a i))
        rw [AR_set a i4, HAI.out] at this
        exact this
      case measure => simp [intOf]; omega
    · have hin : i = nk := by omega
      subst hin
      have hB := h6.out.1
      rw [AR_end HZ.out] at hB
      have hM := HB.out.bnd.at_
      have htw := Lib.hid (HT.out.block (h6.out.2.2.block 0 (by obtain ⟨t, fr, e⟩ := HT.out; rcases Nat.lt_or_ge 0 W.heap.size with h | h; exact h; rw [Array.getElem?_eq_none h] at e; cases e)))
      have BE := Lib.hid h6.out.2.2
      have HM := Lib.hid hM
      rw [HA0.out, HA1.out, HA2.out] at hB
      have o0 : wr.cell? ⟨q0 + 1, 0, none⟩ = some (.int .i64 a0) := hB.cell rfl
      have o1 : wr.cell? ⟨q0 + 1, 1, none⟩ = some (.int .i64 a1) := hB.cell rfl
      have o2 : wr.cell? ⟨q0 + 1, 2, none⟩ = some (.int .i64 a2) := hB.cell rfl
      have lo : q0 + 1 < wr.heap.size := hB.lt
      have lq : q0 < wr.heap.size := by omega
      clear hB hM h6 hlt hi
      by_cases h3 : a0 = 3
      · subst h3
        by_cases hab : a1 = a2
        · subst hab
          have e1 : (a1 == a1) = true := by simp
          have hv : kindP 30 bb 3 a1 a1 = a1 := by unfold kindP; simp
          have HV := Lib.hid hv
          clear hv
          go_wp2_with fail
          go_ret
          exact ⟨by rw [HV.out]; try rfl, BE.out⟩
        · have e1 : (a1 == a2) = false := by simpa using hab
          have hv : kindP 30 bb 3 a1 a2 = 0 := by unfold kindP; simp [hab]
          have HV := Lib.hid hv
          clear hv hab
          go_wp2_with fail
          go_ret
          exact ⟨by rw [HV.out]; try rfl, BE.out⟩
      · have e1 : (a0 == 3) = false := by simpa using h3
        have hv : kindP 30 bb a0 a1 a2 = 0 := by unfold kindP; simp [h3]
        have HV := Lib.hid hv
        clear hv h3
        go_wp2_with fail
        go_ret
        exact ⟨by rw [HV.out]; try rfl, BE.out⟩
set_option maxRecDepth 100000 in
set_option maxHeartbeats 8000000 in
theorem kindp_def {W : World} {g bm kb fm nb nf nk k : Nat} {lv kv : Value} {K : List Int} {vs F : List (List Nat)} {s : List Nat} {n : Int} {qs : List Nat} (H : KSt W g bm kb fm nb nf lv K vs F) (htk : TakesB W) (hs : NameOk s) (hkv : SlR W W.heap.size 1 IsI kv (qs.map fun n : Nat => (n : Int))) (hq : qs.length = nk) (hn3 : nk ≤ 3) (a : Nat → Int) (ha : ∀ i q, qs[i]? = some q → K[q]? = some (a i)) (hz : ∀ i, nk ≤ i → a i = 0) (hk : 1 ≤ k ∧ k ≤ 34 ∧ k ≠ 7 ∧ k ≠ 20 ∧ k ≠ 23 ∧ k ≠ 24 ∧ k ≠ 25 ∧ k ≠ 26 ∧ k ≠ 30) :
    Calls Tryz.prog 38 #[.pointer (some ⟨g, 0, none⟩), .agg #[.int .i64 (k : Int), .string (txt s), .int .i64 n, kv]] W fun e w' => e = .returned (.int .i64 (kindP k (decide (s ∈ vs)) (a 0) (a 1) (a 2))) ∧ Below W.heap.size W w' := by
  obtain ⟨a0, ha0⟩ : ∃ z, a 0 = z := ⟨_, rfl⟩
  obtain ⟨a1, ha1⟩ : ∃ z, a 1 = z := ⟨_, rfl⟩
  obtain ⟨a2, ha2⟩ : ∃ z, a 2 = z := ⟨_, rfl⟩
  obtain ⟨bb, hbb⟩ : ∃ z, decide (s ∈ vs) = z := ⟨_, rfl⟩
  rw [ha0, ha1, ha2, hbb]
  have HA0 := Lib.hid ha0
  have HA1 := Lib.hid ha1
  have HA2 := Lib.hid ha2
  have HBB := Lib.hid hbb
  clear ha0 ha1 ha2 hbb
  obtain ⟨ka, kc, rfl, _, _⟩ := hkv.form
  rw [List.length_map, hq] at hkv ⊢
  obtain ⟨nK, hnK⟩ : ∃ z, K.length = z := ⟨_, rfl⟩
  have c2 : W.cell? ⟨g, 2, none⟩ = some (.slice (some ⟨kb, 0, none⟩) nK nK) := by rw [← hnK]; exact H.blk.cell rfl
  have c1 : W.cell? ⟨g, 1, none⟩ = some (.map (some bm)) := H.blk.cell rfl
  have hgl := H.lt.1
  have HH := Lib.hid H
  have HKV := Lib.hid hkv
  have HQ := Lib.hid hq
  have HA := Lib.hid ha
  have HZ := Lib.hid hz
  have HT := Lib.hid htk
  have HS := Lib.hid hs
  have HNK := Lib.hid hnK
  clear H hkv hq ha hz htk hs hnK
  go_enter Tryz.func38, Tryz.ntmps38
  go_wp2_with fail
  have BN : Hid (Blk (W.alloc (.cells #[.int .i64 (k : Int), .string (txt s), .int .i64 n, .slice ka nk kc] 40)) W.heap.size 40 #[.int .i64 (k : Int), .string (txt s), .int .i64 n, .slice ka nk kc]) := Lib.hid (Blk.new _ _ _)
  have BA : Hid (Blk ((W.alloc (.cells #[.int .i64 (k : Int), .string (txt s), .int .i64 n, .slice ka nk kc] 40)).alloc (.cells #[.int .i64 0, .int .i64 0, .int .i64 0] 108)) (W.heap.size + 1) 108 (AR a 0)) := Lib.hid (Blk.new_ (w := W.alloc (.cells #[.int .i64 (k : Int), .string (txt s), .int .i64 n, .slice ka nk kc] 40)) (by simp) _ _)
  have BN2 : Hid (Blk ((W.alloc (.cells #[.int .i64 (k : Int), .string (txt s), .int .i64 n, .slice ka nk kc] 40)).alloc (.cells #[.int .i64 0, .int .i64 0, .int .i64 0] 108)) W.heap.size 40 #[.int .i64 (k : Int), .string (txt s), .int .i64 n, .slice ka nk kc]) := Lib.hid (BN.out.alloc _)
  have B1 : Hid (Below W.heap.size W ((W.alloc (.cells #[.int .i64 (k : Int), .string (txt s), .int .i64 n, .slice ka nk kc] 40)).alloc (.cells #[.int .i64 0, .int .i64 0, .int .i64 0] 108))) := Lib.hid (((Below.refl _ _).alloc (Nat.le_refl _) _).alloc (by simp) _)
  generalize hW1 : (W.alloc (.cells #[.int .i64 (k : Int), .string (txt s), .int .i64 n, .slice ka nk kc] 40)).alloc (.cells #[.int .i64 0, .int .i64 0, .int .i64 0] 108) = W1 at *
  obtain ⟨q0, hq0⟩ : ∃ z, W.heap.size = z := ⟨_, rfl⟩
  rw [hq0] at BA BN2 ⊢
  clear hW1 BN c1 c2
  go_loopw [12] (fun v12 wr => ∃ i : Nat, i ≤ nk ∧ v12 = .int .i64 (i : Int) ∧ Hid (Blk wr (q0 + 1) 108 (AR a i) ∧ Blk wr q0 40 #[.int .i64 (k : Int), .string (txt s), .int .i64 n, .slice ka nk kc] ∧ Below W.heap.size W wr)) (fun v12 _ => nk - (intOf v12).toNat)
  case atStart => exact ⟨0, Nat.zero_le _, rfl, Lib.hid ⟨BA.out, BN2.out, B1.out⟩⟩
  case round =>
    obtain ⟨i, hi, rfl, h6⟩ := hrel
    have HB := Lib.hid (HH.out.below h6.out.2.2)
    have d1 : wr.cell? ⟨g, 1, none⟩ = some (.map (some bm)) := HB.out.blk.cell rfl
    have d2 : wr.cell? ⟨g, 2, none⟩ = some (.slice (some ⟨kb, 0, none⟩) nK nK) := by rw [← HNK.out]; exact HB.out.blk.cell rfl
    have n0 : wr.cell? ⟨q0, 0, none⟩ = some (.int .i64 (k : Int)) := h6.out.2.1.cell rfl
    have n1 : wr.cell? ⟨q0, 1, none⟩ = some (.string (txt s)) := h6.out.2.1.cell rfl
    have n3 : wr.cell? ⟨q0, 3, none⟩ = some (.slice ka nk kc) := h6.out.2.1.cell rfl
    by_cases hlt : i < nk
    · obtain ⟨q, hqi⟩ := get_some HQ.out hlt
      have hqi' : (qs.map fun n : Nat => (n : Int))[i]? = some (q : Int) := by rw [List.getElem?_map, hqi]; rfl
      obtain ⟨b, off, x, rfl, hbB, hxl, rfl, hx⟩ := (HKV.out.below h6.out.2.2).at_ hqi'
      have x0 := hx 0 _ rfl
      simp only [Nat.add_zero, Nat.mul_one] at x0
      have hKq := HA.out i q hqi
      have y0 := HB.out.cell hKq
      have hql : q < nK := by rw [← HNK.out]; exact (List.getElem?_eq_some_iff.1 hKq).1
      have k0 : (0 : Int) ≤ (q : Int) := Int.natCast_nonneg _
      have k1 : (q : Int) < (nK : Int) := by omega
      have i0 : (0 : Int) ≤ (i : Int) := Int.natCast_nonneg _
      have i1 : (i : Int) < (nk : Int) := by omega
      have i3 : (i : Int) < 3 := by omega
      have i4 : i < 3 := by omega
      obtain ⟨u, hu⟩ : ∃ u, (AR a i)[i]? = some u := by
        rcases (by omega : i = 0 ∨ i = 1 ∨ i = 2) with rfl | rfl | rfl <;> exact ⟨_, rfl⟩
      have z0 : wr.cell? ⟨q0 + 1, i, none⟩ = some u := h6.out.1.cell hu
      have zf : wr.frozen? ⟨q0 + 1, i, none⟩ = false := h6.out.1.frozen i
      obtain ⟨ai, hai⟩ : ∃ z, a i = z := ⟨_, rfl⟩
      rw [hai] at y0
      have HAI := Lib.hid hai
      have HU := Lib.hid hu
      have ne : q0 + 1 ≠ q0 := by omega
      clear hqi hqi' hx hxl hKq hu hai
      go_wp2_with fail
      go_roundw
      case rel =>
        refine ⟨i + 1, by omega, by go_num, Lib.hid ⟨?_, h6.out.2.1.far (p := ⟨q0 + 1, i, none⟩) (by show q0 ≠ q0 + 1; omega) _, h6.out.2.2.setCell (p := ⟨q0 + 1, i, none⟩) (by show W.heap.size ≤ q0 + 1; omega) _⟩⟩
        have := h6.out.1.set_ i (.int .i64 (a i))
        rw [AR_set a i4, HAI.out] at this
        exact this
      case measure => simp [intOf]; omega
    · have hin : i = nk := by omega
      subst hin
      have hB := h6.out.1
      rw [AR_end HZ.out] at hB
      have hM := HB.out.bnd.at_
      have htw := Lib.hid (HT.out.block (h6.out.2.2.block 0 (by obtain ⟨t, fr, e⟩ := HT.out; rcases Nat.lt_or_ge 0 W.heap.size with h | h; exact h; rw [Array.getElem?_eq_none h] at e; cases e)))
      have BE := Lib.hid h6.out.2.2
      have HM := Lib.hid hM
      rw [HA0.out, HA1.out, HA2.out] at hB
      have o0 : wr.cell? ⟨q0 + 1, 0, none⟩ = some (.int .i64 a0) := hB.cell rfl
      have o1 : wr.cell? ⟨q0 + 1, 1, none⟩ = some (.int .i64 a1) := hB.cell rfl
      have o2 : wr.cell? ⟨q0 + 1, 2, none⟩ = some (.int .i64 a2) := hB.cell rfl
      have lo : q0 + 1 < wr.heap.size := hB.lt
      have lq : q0 < wr.heap.size := by omega
      clear hB hM h6 hlt hi
      have ek7 : ((k : Int) == 7) = false := by rw [beq_eq_false_iff_ne]; omega
      have ek20 : ((k : Int) == 20) = false := by rw [beq_eq_false_iff_ne]; omega
      have ek23 : ((k : Int) == 23) = false := by rw [beq_eq_false_iff_ne]; omega
      have ek24 : ((k : Int) == 24) = false := by rw [beq_eq_false_iff_ne]; omega
      have ek25 : ((k : Int) == 25) = false := by rw [beq_eq_false_iff_ne]; omega
      have ek26 : ((k : Int) == 26) = false := by rw [beq_eq_false_iff_ne]; omega
      have ek30 : ((k : Int) == 30) = false := by rw [beq_eq_false_iff_ne]; omega
      have hk35 : k < 35 := by omega
      obtain ⟨g0, g1, g2⟩ := takes_get hk35
      have t0 := htw.out.cell (j := 0) g0
      have t1 := htw.out.cell (j := 1) g1
      have t2 := htw.out.cell (j := 2) g2
      simp only [Nat.add_zero] at t0
      have hkp : kindP k bb a0 a1 a2 = if a0 = (takesL.getD k (0, 0, 0)).1 ∧ a1 = (takesL.getD k (0, 0, 0)).2.1 then (takesL.getD k (0, 0, 0)).2.2 else 0 := by
        unfold kindP
        rw [if_neg (by omega), if_neg (by omega), if_neg (by omega), if_neg (by omega)]
      obtain ⟨⟨x0, x1, x2⟩, hx⟩ : ∃ z, takesL.getD k (0, 0, 0) = z := ⟨_, rfl⟩
      rw [hx] at t0 t1 t2 hkp
      have k0 : (0 : Int) ≤ (k : Int) := Int.natCast_nonneg _
      have k1 : (k : Int) < 35 := by omega
      have l0 : 0 < wr.heap.size := by omega
      clear hx g0 g1 g2
      by_cases h0 : a0 = x0
      · subst h0
        have e0 : (a0 == a0) = true := by simp
        by_cases h1 : a1 = x1
        · subst h1
          have e1 : (a1 == a1) = true := by simp
          have hv : kindP k bb a0 a1 a2 = x2 := by rw [hkp]; simp
          have HV := Lib.hid hv
          clear hv hkp hk
          go_wp2_with fail
          go_ret
          exact ⟨by rw [HV.out]; try rfl, by first | exact BE.out.alloc (by have := BE.out.size; omega) _ | (rw [← hq0]; exact BE.out.alloc (by have := BE.out.size; omega) _)⟩
        · have e1 : (a1 == x1) = false := by simpa using h1
          have hv : kindP k bb a0 a1 a2 = 0 := by rw [hkp]; simp [h1]
          have HV := Lib.hid hv
          clear hv hkp h1 hk
          go_wp2_with fail
          go_ret
          exact ⟨by rw [HV.out]; try rfl, by first | exact BE.out.alloc (by have := BE.out.size; omega) _ | (rw [← hq0]; exact BE.out.alloc (by have := BE.out.size; omega) _)⟩
      · have e0 : (a0 == x0) = false := by simpa using h0
        have hv : kindP k bb a0 a1 a2 = 0 := by rw [hkp]; simp [h0]
        have HV := Lib.hid hv
        clear hv hkp h0 hk
        go_wp2_with fail
        go_ret
        exact ⟨by rw [HV.out]; try rfl, by first | exact BE.out.alloc (by have := BE.out.size; omega) _ | (rw [← hq0]; exact BE.out.alloc (by have := BE.out.size; omega) _)⟩
end Go.Proofs.YtidkbodmiegbkaaGreatDoor
