/- Chapter 09, outright: behind, walked. -/
import Derived.Test.YtidkbodmiegbkaaGreatDoorKzD
import Derived.StillTailTactics
namespace Go.Proofs.YtidkbodmiegbkaaGreatDoor
set_option linter.unusedSimpArgs false
set_option linter.unusedVariables false
open Go.RowKit

def BehindIs (l : List ND) (lv : Value) (W0 : World) (f : Nat) : Prop := ∀ (t : Tr) (p : Nat) (W : World), Stands l t p → t.deep ≤ f → p + t.size ≤ l.length → Below W0.heap.size W0 W →
  Calls Tryz.prog 15 #[.agg #[lv], .int .i64 (p : Int)] W fun e w' => e = .returned (.int .i64 ((p + t.size : Nat) : Int)) ∧ Below W.heap.size W w'
set_option maxRecDepth 100000 in
set_option maxHeartbeats 8000000 in
theorem behind_step {l : List ND} {lv : Value} {W0 : World} {f : Nat} (hs : SlR W0 W0.heap.size 4 (ND.Is W0 W0.heap.size) lv l) (hl : l.length ≤ 256) (ih : BehindIs l lv W0 f) : BehindIs l lv W0 (f + 1) := by
  intro t p W hst hd hsz hw
  obtain ⟨k, s, m, ks⟩ := t
  obtain ⟨h1, h2⟩ := stands_node hst
  have hd1 := deep_one hd
  obtain ⟨a, c, rfl⟩ : ∃ a c, lv = .slice a l.length c := by obtain ⟨a, c, h, _⟩ := hs.form; exact ⟨a, c, h⟩
  obtain ⟨b, off, x, rfl, hbB, hxl, ⟨kv, rfl, hkv⟩, hx⟩ := hs.at_ h1
  obtain ⟨ka, kc, rfl, _⟩ := hkv.form
  have hkl : ((placesL ks (p + 1)).map fun n : Nat => (n : Int)).length = ks.length := by rw [List.length_map, places_len]
  simp only at hkv hx
  rw [hkl] at hkv hx
  obtain ⟨n, hn⟩ : ∃ n, l.length = n := ⟨_, rfl⟩
  rw [hn] at hs hl hsz ih ⊢
  simp only [Tr.size] at hsz ⊢
  have HX3 : Hid (∀ w, Below W0.heap.size W0 w → w.cell? ⟨b, off + p * 4 + 3, none⟩ = some (.slice ka ks.length kc)) := Lib.hid (fun w h => (h.cell (p := ⟨b, off + p * 4 + 3, none⟩) hbB).trans (hx 3 _ rfl))
  have HKS := Lib.hid hkv
  have HW := Lib.hid hw
  have HST := Lib.hid h2
  have IH := Lib.hid ih
  have HD := Lib.hid hd1
  have HSZ := Lib.hid hsz
  have HN := Lib.hid hn
  have p0 : (0 : Int) ≤ (p : Int) := Int.natCast_nonneg _
  have pn : (p : Int) < (n : Int) := by omega
  have p256 : (p : Int) ≤ 256 := by omega
  have ks256 : ks.length ≤ 256 := by
    have h0 : ∀ ts : List Tr, ts.length ≤ sizeL ts := by
      intro ts
      induction ts with
      | nil => simp [sizeL]
      | cons t ts ih => obtain ⟨k, s, m, ks⟩ := t; simp only [sizeL, Tr.size, List.length_cons]; omega
    have := h0 ks
    omega
  obtain ⟨kn, hkn⟩ : ∃ z, ks.length = z := ⟨_, rfl⟩
  have HKN := Lib.hid hkn
  rw [hkn] at HX3 HKS ks256
  have kn256 : (kn : Int) ≤ 256 := by omega
  have hB : Below W.heap.size W (W.alloc (.cells #[.slice (some ⟨b, off, none⟩) n c] 24)) := (Below.refl _ _).alloc (Nat.le_refl _) _
  have KE : Hid (Blk (W.alloc (.cells #[.slice (some ⟨b, off, none⟩) n c] 24)) W.heap.size 24 #[.slice (some ⟨b, off, none⟩) n c]) := Lib.hid (Blk.new _ _ _)
  have HB := Lib.hid hB
  clear hs hst hd hw h1 h2 hd1 hbB hxl hkv hx hkl ih hsz hn hkn hB
  go_enter Tryz.func15, Tryz.ntmps15
  go_upto_region 3 with fail
  obtain ⟨eb, heb⟩ : ∃ z, W.heap.size = z := ⟨_, rfl⟩
  have HEB := Lib.hid heb
  rw [heb] at KE ⊢
  clear heb
  generalize hW1 : W.alloc (.cells #[.slice (some ⟨b, off, none⟩) n c] 24) = W1 at *
  clear hW1
  go_loopw [5, 6] (fun v5 v6 wr => ∃ j : Nat, j ≤ kn ∧ v6 = .int .i64 (j : Int) ∧ v5 = .int .i64 ((p + 1 + sizeL (ks.take j) : Nat) : Int) ∧ Hid (Blk wr eb 24 #[.slice (some ⟨b, off, none⟩) n c] ∧ Below W.heap.size W wr)) (fun _ v6 _ => kn - (intOf v6).toNat)
  case atStart => exact ⟨0, Nat.zero_le _, rfl, by simp [sizeL]; try rfl, Lib.hid ⟨KE.out, HB.out⟩⟩
  case round =>
    obtain ⟨j, hj, rfl, rfl, hr⟩ := hrel
    have K1 := Lib.hid hr.out.1
    have B1 := Lib.hid hr.out.2
    clear hr KE HB
    have e1 : wr.cell? ⟨eb, 0, none⟩ = some (.slice (some ⟨b, off, none⟩) n c) := K1.out.cell rfl
    have l1 : eb < wr.heap.size := K1.out.lt
    have HWR : Hid (Below W0.heap.size W0 wr) := Lib.hid (HW.out.trans (B1.out.mono HW.out.size))
    have x3 := HX3.out wr HWR.out
    have j0 : (0 : Int) ≤ (j : Int) := Int.natCast_nonneg _
    by_cases hlt : j < kn
    · obtain ⟨t, ht⟩ : ∃ t, ks[j]? = some t := ⟨_, List.getElem?_eq_getElem (by rw [HKN.out]; exact hlt)⟩
      have hq := places_get (p := p + 1) (show j < ks.length by rw [HKN.out]; exact hlt)
      have hq' : ((placesL ks (p + 1)).map fun n : Nat => (n : Int))[j]? = some ((p + 1 + sizeL (ks.take j) : Nat) : Int) := by rw [List.getElem?_map, hq]; rfl
      obtain ⟨bK, ok, xk, rfl, hbK, _, rfl, hxk⟩ := HKS.out.at_ hq'
      have yk := (HWR.out.cell (p := ⟨bK, ok + j * 1, none⟩) hbK).trans (hxk 0 _ rfl)
      simp only [Nat.add_zero, Nat.mul_one] at yk
      obtain ⟨q', h4, h5⟩ := stands_at HST.out ht
      rw [hq] at h4
      injection h4 with h4
      subst h4
      have hts := sizeL_take_succ ht
      have hts2 := sizeL_take ht
      have CT := Lib.hid (fun w' (hb : Below W.heap.size W w') => IH.out t (p + 1 + sizeL (ks.take j)) w' h5 (Nat.le_trans (deep_at ht) HD.out) (by have := HSZ.out; have := HN.out; omega) (HW.out.trans (hb.mono HW.out.size)))
      obtain ⟨q, hqq⟩ : ∃ z, p + 1 + sizeL (ks.take j) = z := ⟨_, rfl⟩
      have HTS : Hid (p + 1 + sizeL (ks.take (j + 1)) = q + t.size) := Lib.hid (by rw [hts]; omega)
      rw [hqq] at CT yk ⊢
      have HLT := Lib.hid hlt
      have j1 : (j : Int) < (kn : Int) := by omega
      have lbk : bK < wr.heap.size := Nat.lt_of_lt_of_le hbK HWR.out.size
      clear ht hq hq' hxk hbK h5 hts hts2 hqq hlt
      go_upto_region 5 with fail
      go_still_tail 10, (by kernel_rfl)
      change wpList _ _ _ _ _ wr.drew
      have K2 : Hid (Blk wr.drew eb 24 #[.slice (some ⟨b, off, none⟩) n c]) := Lib.hid K1.out.drwC
      have B2 : Hid (Below W.heap.size W wr.drew) := Lib.hid B1.out.drew
      generalize wr.drew = w5 at *
      go_wp2_with (first
        | (go_at_call 15; go_must (refine (CT.out w5 B2.out).mono ?_); rintro e w6 ⟨rfl, hb⟩
           go_must (have K6 := Lib.hid (K2.out.below hb K2.out.lt))
           have B6 := Lib.hid (B2.out.trans (hb.mono B2.out.size))
           clear hb)
        | fail)
      go_roundw
      case rel => exact ⟨j + 1, HLT.out, by go_num, by rw [HTS.out]; simp, Lib.hid ⟨K6.out, B6.out⟩⟩
      case measure => simp [intOf]; have := HLT.out; omega
    · have hjk : j = kn := by omega
      have dkk : decide ((j : Int) < (kn : Int)) = false := by rw [hjk]; simp
      have dkk2 : decide (j < kn) = false := by rw [hjk]; simp
      have hall : ks.take j = ks := List.take_of_length_le (by rw [HKN.out, hjk]; exact Nat.le_refl _)
      rw [hall]
      obtain ⟨z, hz⟩ : ∃ z, p + 1 + sizeL ks = z := ⟨_, rfl⟩
      have HZ : Hid (p + (1 + sizeL ks) = z) := Lib.hid (by omega)
      rw [hz]
      clear hlt hjk hall hz
      go_wp2_with fail
      go_ret
      exact ⟨by rw [HZ.out]; try rfl, B1.out⟩
theorem behind_all {l : List ND} {lv : Value} {W0 : World} (hs : SlR W0 W0.heap.size 4 (ND.Is W0 W0.heap.size) lv l) (hl : l.length ≤ 256) : ∀ f, BehindIs l lv W0 f
  | 0 => fun t p W _ h _ _ => by
    obtain ⟨k, s, n, ks⟩ := t
    simp only [Tr.deep] at h
    omega
  | f + 1 => behind_step hs hl (behind_all hs hl f)
end Go.Proofs.YtidkbodmiegbkaaGreatDoor
