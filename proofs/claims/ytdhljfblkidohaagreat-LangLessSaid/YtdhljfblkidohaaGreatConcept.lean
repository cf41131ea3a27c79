/- lang.concept: the parts of a concept, one by one. -/
import Derived.Test.YtdhljfblkidohaaGreatConA
namespace Go.Proofs.YtdhljfblkidohaaGreat
set_option linter.unusedSimpArgs false
set_option linter.unusedVariables false
open Go.RowKit

set_option maxRecDepth 100000 in
set_option maxHeartbeats 8000000 in
theorem concept_ok {ahead : List Concept} {c : Concept} {v : Value} {x : List Value} (w w0 : World) (hs : SlR w0 w0.heap.size 6 (Concept.Is w0 w0.heap.size) v ahead) (hx : Concept.Is w0 w0.heap.size x c) (hw : Below w0.heap.size w0 w)
    (hA : okName c.name = true) (hB : ahead.any (fun x => decide (x.name = c.name)) = false) (hC : ¬ (c.super.size ≠ 0 ∧ okName c.super = false)) (hD : ¬ c.super = c.name) :
    Calls Tryz.prog 25 #[v, .agg x.toArray] w (ConPost (conceptA ahead c) w) := by
  have hmf : ∀ (fn : Fn) (first cap : Array Value) (w : World), (Instr.makeFunc fn first cap).run Tryz.prog w = .ok (.func fn first cap) w := fun _ _ _ _ => rfl
  obtain ⟨va, vc, rfl⟩ : ∃ a c, v = .slice a ahead.length c := by obtain ⟨a, c, h, _⟩ := hs.form; exact ⟨a, c, h⟩
  obtain ⟨nv, hnv⟩ : ∃ n, ahead.length = n := ⟨_, rfl⟩
  rw [hnv] at hs ⊢
  obtain ⟨cn, cs, cab, cp, ck, cr⟩ := c
  obtain ⟨v1, v2, v3, rfl, s1, s2, s3, f1, f2, f3, o1, o2⟩ := hx
  simp only at s1 s2 s3 f1 f2 f3 o1 o2 ⊢
  obtain ⟨n1, hl1⟩ : ∃ n, cp.length = n := ⟨_, rfl⟩
  obtain ⟨n2, hl2⟩ : ∃ n, ck.length = n := ⟨_, rfl⟩
  obtain ⟨n3, hl3⟩ : ∃ n, cr.length = n := ⟨_, rfl⟩
  obtain ⟨a1, c1, rfl⟩ : ∃ a c, v1 = .slice a n1 c := by obtain ⟨a, c, h, _⟩ := s1.form; exact ⟨a, c, by rw [h, hl1]⟩
  obtain ⟨a2, c2, rfl⟩ : ∃ a c, v2 = .slice a n2 c := by obtain ⟨a, c, h, _⟩ := s2.form; exact ⟨a, c, by rw [h, hl2]⟩
  obtain ⟨a3, c3, rfl⟩ : ∃ a c, v3 = .slice a n3 c := by obtain ⟨a, c, h, _⟩ := s3.form; exact ⟨a, c, by rw [h, hl3]⟩
  have Hnv := Lib.hid hnv
  have HW := Lib.hid hw
  have HS := Lib.hid hs
  have S1 := Lib.hid s1
  have S2 := Lib.hid s2
  have S3 := Lib.hid s3
  have L1 := Lib.hid hl1
  have L2 := Lib.hid hl2
  have L3 := Lib.hid hl3
  clear hnv hw hs s1 s2 s3 hl1 hl2 hl3 f1 f2 f3
  simp only at hA hB hC hD
  have HC := Lib.hid (show conceptA ahead ⟨cn, cs, cab, cp, ck, cr⟩ = partsE ⟨cn, cs, cab, cp, ck, cr⟩ by simp only [conceptA]; rw [if_neg (by rw [hA]; simp), if_neg (by rw [hB]; simp), if_neg hC, if_neg hD])
  have RA := Lib.hid (fun W => right_of cn o1 true hA W)
  have HB := Lib.hid (show (ahead.take nv).any (fun x => decide (x.name = cn)) = false by rw [← Hnv.out, List.take_length]; exact hB)
  by_cases h0 : cs.size = 0
  · obtain rfl := empty_txt h0
    have ne3 : ¬ cn.toList = [] := ne_empty (fun e => by rw [empty_txt e] at hD; exact hD rfl)
    have ne4 : (cn.toList == []) = false := by simpa using ne3
    have ne5 : ¬ [] = cn.toList := fun e => ne3 e.symm
    have ne6 : ([] == cn.toList) = false := by simpa using ne5
    clear hA hB hC hD h0
    go_enter Tryz.func25, Tryz.ntmps25
    go_wp2_with (first
    | (go_at_call 18
       with_reducible refine (RA.out _).mono ?_
       rintro e w1 ⟨rfl, q1⟩
       have K1 : Hid (Kept w w.heap.size 47 #[.string cn, .string ⟨#[]⟩, .bool cab, .slice a1 n1 c1, .slice a2 n2 c2, .slice a3 n3 c3] w1) := Lib.hid ((Kept.new w _ _).step (q1.below _))
       obtain ⟨g1, _⟩ := bcell (q1.below (w.heap.size + 1))
       have B1 : Hid (Below w.heap.size w w1) := Lib.hid K1.out.low)
    | (go_at_call 65
       refine (dup_Concept w0 _ w.heap.size cn nv HS.out (HW.out.trans (K1.out.low.mono HW.out.size)) (K1.out.blk.cell (i := 0) rfl) (by rw [Hnv.out]; exact Nat.le_refl _) _ HB.out).mono ?_
       rintro e w2 ⟨rfl, b2⟩
       have K2 : Hid (Kept w w.heap.size 47 #[.string cn, .string ⟨#[]⟩, .bool cab, .slice a1 n1 c1, .slice a2 n2 c2, .slice a3 n3 c3] w2) := Lib.hid (K1.out.step b2)
       obtain ⟨g2, _⟩ := bcell (b2.mono K1.out.blk.lt)
       have B2 : Hid (Below w.heap.size w w2) := Lib.hid K2.out.low))
    have kk : w2.cell? ⟨w.heap.size, 3, none⟩ = some (.slice a1 n1 c1) := K2.out.blk.cell rfl
    go_loopw [6, 7, 8, 41, 48, 52, 58, 66] (fun p6 _ _ j _ _ _ _ wr => ∃ k : Nat, k ≤ n1 ∧ k ≤ 32 ∧ p6 = .int .i64 ((k : Nat) : Int) ∧ j = .int .i64 (k : Int) ∧ Hid (Kept w w.heap.size 47 #[.string cn, .string ⟨#[]⟩, .bool cab, .slice a1 n1 c1, .slice a2 n2 c2, .slice a3 n3 c3] wr) ∧ Hid (firstE (propE cp) 0 cp = firstE (propE cp) k (cp.drop k))) (fun p6 _ _ j _ _ _ _ _ => n1 - (intOf j).toNat)
    case atStart => exact ⟨0, Nat.zero_le _, by omega, rfl, rfl, K2, Lib.hid (by rw [List.drop_zero])⟩
    case round =>
      obtain ⟨k, hk, hk32, rfl, rfl, hK, hf⟩ := hrel
      by_cases hlt : k < n1
      · obtain ⟨⟨yn, yt⟩, hd⟩ : ∃ y : PropDef, cp[k]? = some y := get_some L1.out hlt
        have hWr := HW.out.trans (hK.out.low.mono HW.out.size)
        obtain ⟨b, off, x, rfl, hbB, hxl, ⟨rfl, p1, p2⟩, hx⟩ := (S1.out.below hWr).at_ hd
        simp only [PropDef.cells] at hx p1 p2
        have h0 := hx 0 _ rfl
        have h1 := hx 1 _ rfl
        simp only [Nat.add_zero] at h0
        have kk : wr.cell? ⟨w.heap.size, 3, none⟩ = some (.slice (some ⟨b, off, none⟩) n1 c1) := hK.out.blk.cell rfl
        have l0 : w.heap.size < wr.heap.size := hK.out.blk.lt
        have l1 : w.heap.size < wr.heap.size + 1 := by omega
        have hcap : k ≤ c1 := by have := S1.out.caps; omega
        have hst := firstE_step (f := propE cp) hd
        rw [← hf.out] at hst
        have Hst := Lib.hid hst
        have Hd := Lib.hid hd
        have HWr := Lib.hid hWr
        have Hbad : Hid (∀ e, propE cp k ⟨yn, yt⟩ = e → e ≠ 0 → conceptA ahead ⟨cn, ⟨#[]⟩, cab, cp, ck, cr⟩ = (1 + (k), e)) := by
          intro e he h0
          rw [HC.out]
          have hs : firstE (propE cp) 0 cp = some (k, e) := by rw [Hst.out, if_pos (by rw [he]; exact h0), he]
          exact partsE_p hs
        have Hgood : Hid (propE cp k ⟨yn, yt⟩ = 0 → firstE (propE cp) 0 cp = firstE (propE cp) (k + 1) (cp.drop (k + 1))) := by
          intro he
          rw [Hst.out, if_neg (by rw [he]; simp)]
        clear hd hx hxl hWr hf hst
        by_cases h32 : k = 32
        · subst h32
          have hz := Hbad.out 4 (by simp [propE]) (by omega)
          rw [hz]; clear hz Hbad Hgood
          go_wp2_with fail
          go_ret2
          exact ⟨⟨_, rfl, fun _ => by first | (simp; done) | (simp; omega)⟩, (hK.out.alloc _).low⟩
        have hkl : k < 32 := by omega
        have e32 : ((k : Int) == 32) = false := by simp; omega
        have n32 : ¬ (k : Int) = 32 := by omega
        have m32 : ¬ 32 ≤ k := by omega
        rcases hR : okName yn with _ | _
        · have RR := Lib.hid (fun W => right_of yn p2 false hR W)
          have hz := Hbad.out 2 (by simp only [propE]; rw [if_neg m32, if_pos hR]) (by omega)
          rw [hz]; clear hz Hbad Hgood
          go_wp2_with (first
                | (go_at_call 18
                   with_reducible refine (RR.out _).mono ?_
                   rintro e w1 ⟨rfl, q1⟩
                   have PP1 : Hid (Kept wr wr.heap.size 105 #[.string yn, .int .i64 yt] w1) := Lib.hid ((Kept.new wr _ _).step (q1.below _))
                   have KK1 : Hid (Kept w w.heap.size 47 #[.string cn, .string ⟨#[]⟩, .bool cab, .slice (some ⟨b, off, none⟩) n1 c1, .slice a2 n2 c2, .slice a3 n3 c3] w1) := Lib.hid ((hK.out.alloc _).step (q1.below _))
                   obtain ⟨g1, _⟩ := bcell (q1.below (wr.heap.size + 1))))
          go_ret2
          exact ⟨⟨_, rfl, fun _ => by first | (simp; done) | (simp; omega)⟩, KK1.out.low⟩
        have RR := Lib.hid (fun W => right_of yn p2 true hR W)
        rcases hD : (cp.take k).any (fun x => decide (x.name = yn)) with _ | _
        rotate_left
        · have HD := Lib.hid hD
          have hz := Hbad.out 40 (by simp only [propE]; rw [if_neg m32, if_neg (by rw [hR]; simp), if_pos hD]) (by omega)
          rw [hz]; clear hz Hbad Hgood
          go_wp2_with (first
                | (go_at_call 18
                   with_reducible refine (RR.out _).mono ?_
                   rintro e w1 ⟨rfl, q1⟩
                   have PP1 : Hid (Kept wr wr.heap.size 105 #[.string yn, .int .i64 yt] w1) := Lib.hid ((Kept.new wr _ _).step (q1.below _))
                   have KK1 : Hid (Kept w w.heap.size 47 #[.string cn, .string ⟨#[]⟩, .bool cab, .slice (some ⟨b, off, none⟩) n1 c1, .slice a2 n2 c2, .slice a3 n3 c3] w1) := Lib.hid ((hK.out.alloc _).step (q1.below _))
                   obtain ⟨g1, _⟩ := bcell (q1.below (wr.heap.size + 1)))
                | (go_at_call 67
                   with_reducible refine (dup_PropDef w0 _ wr.heap.size yn k S1.out (HWr.out.trans (PP1.out.low.mono HWr.out.size)) (PP1.out.blk.cell (i := 0) rfl) (by rw [L1.out]; exact hk) _ HD.out).mono ?_
                   rintro e w3 ⟨rfl, b3⟩
                   have PP3 : Hid (Kept wr wr.heap.size 105 #[.string yn, .int .i64 yt] w3) := Lib.hid (PP1.out.step b3)
                   have KK3 : Hid (Kept w w.heap.size 47 #[.string cn, .string ⟨#[]⟩, .bool cab, .slice (some ⟨b, off, none⟩) n1 c1, .slice a2 n2 c2, .slice a3 n3 c3] w3) := Lib.hid (KK1.out.step b3)
                   obtain ⟨g3, _⟩ := bcell (b3.mono PP1.out.blk.lt)))
          go_ret2
          exact ⟨⟨_, rfl, fun _ => by first | (simp; done) | (simp; omega)⟩, KK3.out.low⟩
        have HD := Lib.hid hD
        by_cases t1 : yt < 1
        · have t1' : decide (yt < 1) = true := by simpa using t1
          have hz := Hbad.out 41 (by simp only [propE]; rw [if_neg m32, if_neg (by rw [hR]; simp), if_neg (by rw [hD]; simp), if_pos (.inl t1)]) (by omega)
          rw [hz]; clear hz Hbad Hgood
          go_wp2_with (first
                | (go_at_call 18
                   with_reducible refine (RR.out _).mono ?_
                   rintro e w1 ⟨rfl, q1⟩
                   have PP1 : Hid (Kept wr wr.heap.size 105 #[.string yn, .int .i64 yt] w1) := Lib.hid ((Kept.new wr _ _).step (q1.below _))
                   have KK1 : Hid (Kept w w.heap.size 47 #[.string cn, .string ⟨#[]⟩, .bool cab, .slice (some ⟨b, off, none⟩) n1 c1, .slice a2 n2 c2, .slice a3 n3 c3] w1) := Lib.hid ((hK.out.alloc _).step (q1.below _))
                   obtain ⟨g1, _⟩ := bcell (q1.below (wr.heap.size + 1)))
                | (go_at_call 67
                   with_reducible refine (dup_PropDef w0 _ wr.heap.size yn k S1.out (HWr.out.trans (PP1.out.low.mono HWr.out.size)) (PP1.out.blk.cell (i := 0) rfl) (by rw [L1.out]; exact hk) _ HD.out).mono ?_
                   rintro e w3 ⟨rfl, b3⟩
                   have PP3 : Hid (Kept wr wr.heap.size 105 #[.string yn, .int .i64 yt] w3) := Lib.hid (PP1.out.step b3)
                   have KK3 : Hid (Kept w w.heap.size 47 #[.string cn, .string ⟨#[]⟩, .bool cab, .slice (some ⟨b, off, none⟩) n1 c1, .slice a2 n2 c2, .slice a3 n3 c3] w3) := Lib.hid (KK1.out.step b3)
                   obtain ⟨g3, _⟩ := bcell (b3.mono PP1.out.blk.lt)))
          go_ret2
          exact ⟨⟨_, rfl, fun _ => by first | (simp; done) | (simp; omega)⟩, KK3.out.low⟩
        have t1' : decide (yt < 1) = false := by simpa using t1
        by_cases t4 : 4 < yt
        · have t4' : decide (4 < yt) = true := by simpa using t4
          have hz := Hbad.out 41 (by simp only [propE]; rw [if_neg m32, if_neg (by rw [hR]; simp), if_neg (by rw [hD]; simp), if_pos (.inr t4)]) (by omega)
          rw [hz]; clear hz Hbad Hgood
          go_wp2_with (first
                | (go_at_call 18
                   with_reducible refine (RR.out _).mono ?_
                   rintro e w1 ⟨rfl, q1⟩
                   have PP1 : Hid (Kept wr wr.heap.size 105 #[.string yn, .int .i64 yt] w1) := Lib.hid ((Kept.new wr _ _).step (q1.below _))
                   have KK1 : Hid (Kept w w.heap.size 47 #[.string cn, .string ⟨#[]⟩, .bool cab, .slice (some ⟨b, off, none⟩) n1 c1, .slice a2 n2 c2, .slice a3 n3 c3] w1) := Lib.hid ((hK.out.alloc _).step (q1.below _))
                   obtain ⟨g1, _⟩ := bcell (q1.below (wr.heap.size + 1)))
                | (go_at_call 67
                   with_reducible refine (dup_PropDef w0 _ wr.heap.size yn k S1.out (HWr.out.trans (PP1.out.low.mono HWr.out.size)) (PP1.out.blk.cell (i := 0) rfl) (by rw [L1.out]; exact hk) _ HD.out).mono ?_
                   rintro e w3 ⟨rfl, b3⟩
                   have PP3 : Hid (Kept wr wr.heap.size 105 #[.string yn, .int .i64 yt] w3) := Lib.hid (PP1.out.step b3)
                   have KK3 : Hid (Kept w w.heap.size 47 #[.string cn, .string ⟨#[]⟩, .bool cab, .slice (some ⟨b, off, none⟩) n1 c1, .slice a2 n2 c2, .slice a3 n3 c3] w3) := Lib.hid (KK1.out.step b3)
                   obtain ⟨g3, _⟩ := bcell (b3.mono PP1.out.blk.lt)))
          go_ret2
          exact ⟨⟨_, rfl, fun _ => by first | (simp; done) | (simp; omega)⟩, KK3.out.low⟩
        have t4' : decide (4 < yt) = false := by simpa using t4
        have hz := Hgood.out (by simp only [propE]; rw [if_neg m32, if_neg (by rw [hR]; simp), if_neg (by rw [hD]; simp), if_neg (by omega)])
        have HZ := Lib.hid hz
        clear hz Hbad Hgood
        go_wp2_with (first
              | (go_at_call 18
                 with_reducible refine (RR.out _).mono ?_
                 rintro e w1 ⟨rfl, q1⟩
                 have PP1 : Hid (Kept wr wr.heap.size 105 #[.string yn, .int .i64 yt] w1) := Lib.hid ((Kept.new wr _ _).step (q1.below _))
                 have KK1 : Hid (Kept w w.heap.size 47 #[.string cn, .string ⟨#[]⟩, .bool cab, .slice (some ⟨b, off, none⟩) n1 c1, .slice a2 n2 c2, .slice a3 n3 c3] w1) := Lib.hid ((hK.out.alloc _).step (q1.below _))
                 obtain ⟨g1, _⟩ := bcell (q1.below (wr.heap.size + 1)))
              | (go_at_call 67
                 with_reducible refine (dup_PropDef w0 _ wr.heap.size yn k S1.out (HWr.out.trans (PP1.out.low.mono HWr.out.size)) (PP1.out.blk.cell (i := 0) rfl) (by rw [L1.out]; exact hk) _ HD.out).mono ?_
                 rintro e w3 ⟨rfl, b3⟩
                 have PP3 : Hid (Kept wr wr.heap.size 105 #[.string yn, .int .i64 yt] w3) := Lib.hid (PP1.out.step b3)
                 have KK3 : Hid (Kept w w.heap.size 47 #[.string cn, .string ⟨#[]⟩, .bool cab, .slice (some ⟨b, off, none⟩) n1 c1, .slice a2 n2 c2, .slice a3 n3 c3] w3) := Lib.hid (KK1.out.step b3)
                 obtain ⟨g3, _⟩ := bcell (b3.mono PP1.out.blk.lt)))
        go_roundw
        case rel => exact ⟨k + 1, by omega, by omega, by go_num, by go_num, KK3, HZ⟩
        case measure => simp [intOf]; omega
      · obtain rfl : n1 = k := by omega
        clear hlt
        have F1 := Lib.hid (show firstE (propE cp) 0 cp = none by rw [hf.out]; exact firstE_end (by rw [L1.out]; exact Nat.le_refl _))
        have hKf := hK
        obtain ⟨wo, hwo⟩ : ∃ wo, wo = wr := ⟨wr, rfl⟩
        subst hwo
        have kk : wo.cell? ⟨w.heap.size, 4, none⟩ = some (.slice a2 n2 c2) := hK.out.blk.cell rfl
        clear hf hK hk
        go_wp2_with fail
        go_loopw [6, 9, 10, 80, 87, 91, 103, 111] (fun p6 _ _ j _ _ _ _ wr => ∃ k : Nat, k ≤ n2 ∧ k ≤ 32 ∧ p6 = .int .i64 ((n1 + k : Nat) : Int) ∧ j = .int .i64 (k : Int) ∧ Hid (Kept w w.heap.size 47 #[.string cn, .string ⟨#[]⟩, .bool cab, .slice a1 n1 c1, .slice a2 n2 c2, .slice a3 n3 c3] wr) ∧ Hid (firstE (kidE ck) 0 ck = firstE (kidE ck) k (ck.drop k))) (fun p6 _ _ j _ _ _ _ _ => n2 - (intOf j).toNat)
        case atStart => exact ⟨0, Nat.zero_le _, by omega, rfl, rfl, hKf, Lib.hid (by rw [List.drop_zero])⟩
        case round =>
          obtain ⟨k, hk, hk32, rfl, rfl, hK, hf⟩ := hrel
          by_cases hlt : k < n2
          · obtain ⟨⟨yn, yc, ymi, yma⟩, hd⟩ : ∃ y : KidDef, ck[k]? = some y := get_some L2.out hlt
            have hWr := HW.out.trans (hK.out.low.mono HW.out.size)
            obtain ⟨b, off, x, rfl, hbB, hxl, ⟨rfl, p1, p2, p3, p4⟩, hx⟩ := (S2.out.below hWr).at_ hd
            simp only [KidDef.cells] at hx p1 p2 p3 p4
            have h0 := hx 0 _ rfl
            have h1 := hx 1 _ rfl
            have h2 := hx 2 _ rfl
            have h3 := hx 3 _ rfl
            simp only [Nat.add_zero] at h0
            have kk : wr.cell? ⟨w.heap.size, 4, none⟩ = some (.slice (some ⟨b, off, none⟩) n2 c2) := hK.out.blk.cell rfl
            have l0 : w.heap.size < wr.heap.size := hK.out.blk.lt
            have l1 : w.heap.size < wr.heap.size + 1 := by omega
            have hcap : k ≤ c2 := by have := S2.out.caps; omega
            have hst := firstE_step (f := kidE ck) hd
            rw [← hf.out] at hst
            have Hst := Lib.hid hst
            have Hd := Lib.hid hd
            have HWr := Lib.hid hWr
            have Hbad : Hid (∀ e, kidE ck k ⟨yn, yc, ymi, yma⟩ = e → e ≠ 0 → conceptA ahead ⟨cn, ⟨#[]⟩, cab, cp, ck, cr⟩ = (1 + (n1 + k), e)) := by
              intro e he h0
              rw [HC.out]
              have hs : firstE (kidE ck) 0 ck = some (k, e) := by rw [Hst.out, if_pos (by rw [he]; exact h0), he]
              exact (partsE_k F1.out hs).trans (by rw [L1.out, Nat.add_assoc])
            have Hgood : Hid (kidE ck k ⟨yn, yc, ymi, yma⟩ = 0 → firstE (kidE ck) 0 ck = firstE (kidE ck) (k + 1) (ck.drop (k + 1))) := by
              intro he
              rw [Hst.out, if_neg (by rw [he]; simp)]
            clear hd hx hxl hWr hf hst
            by_cases h32 : k = 32
            · subst h32
              have hz := Hbad.out 4 (by simp [kidE]) (by omega)
              rw [hz]; clear hz Hbad Hgood
              go_wp2_with fail
              go_ret2
              exact ⟨⟨_, rfl, fun _ => by first | (simp; done) | (simp; omega)⟩, (hK.out.alloc _).low⟩
            have hkl : k < 32 := by omega
            have e32 : ((k : Int) == 32) = false := by simp; omega
            have n32 : ¬ (k : Int) = 32 := by omega
            have m32 : ¬ 32 ≤ k := by omega
            rcases hR : okName yn with _ | _
            · have RR := Lib.hid (fun W => right_of yn p3 false hR W)
              have hz := Hbad.out 2 (by simp only [kidE]; rw [if_neg m32, if_pos (.inl hR)]) (by omega)
              rw [hz]; clear hz Hbad Hgood
              go_wp2_with (first
                    | (go_at_call 18
                       with_reducible refine (RR.out _).mono ?_
                       rintro e w1 ⟨rfl, q1⟩
                       have PP1 : Hid (Kept wr wr.heap.size 62 #[.string yn, .string yc, .int .i64 ymi, .int .i64 yma] w1) := Lib.hid ((Kept.new wr _ _).step (q1.below _))
                       have KK1 : Hid (Kept w w.heap.size 47 #[.string cn, .string ⟨#[]⟩, .bool cab, .slice a1 n1 c1, .slice (some ⟨b, off, none⟩) n2 c2, .slice a3 n3 c3] w1) := Lib.hid ((hK.out.alloc _).step (q1.below _))
                       obtain ⟨g1, _⟩ := bcell (q1.below (wr.heap.size + 1))))
              go_ret2
              exact ⟨⟨_, rfl, fun _ => by first | (simp; done) | (simp; omega)⟩, KK1.out.low⟩
            have RR := Lib.hid (fun W => right_of yn p3 true hR W)
            rcases hR2 : okName yc with _ | _
            · have RC := Lib.hid (fun W => right_of yc p4 false hR2 W)
              have hz := Hbad.out 2 (by simp only [kidE]; rw [if_neg m32, if_pos (.inr hR2)]) (by omega)
              rw [hz]; clear hz Hbad Hgood
              go_wp2_with (first
                    | (go_at_call 18
                       with_reducible refine (RR.out _).mono ?_
                       rintro e w1 ⟨rfl, q1⟩
                       have PP1 : Hid (Kept wr wr.heap.size 62 #[.string yn, .string yc, .int .i64 ymi, .int .i64 yma] w1) := Lib.hid ((Kept.new wr _ _).step (q1.below _))
                       have KK1 : Hid (Kept w w.heap.size 47 #[.string cn, .string ⟨#[]⟩, .bool cab, .slice a1 n1 c1, .slice (some ⟨b, off, none⟩) n2 c2, .slice a3 n3 c3] w1) := Lib.hid ((hK.out.alloc _).step (q1.below _))
                       obtain ⟨g1, _⟩ := bcell (q1.below (wr.heap.size + 1)))
                    | (go_at_call 18
                       with_reducible refine (RC.out _).mono ?_
                       rintro e w2 ⟨rfl, q2⟩
                       have PP2 : Hid (Kept wr wr.heap.size 62 #[.string yn, .string yc, .int .i64 ymi, .int .i64 yma] w2) := Lib.hid (PP1.out.step (q2.below _))
                       have KK2 : Hid (Kept w w.heap.size 47 #[.string cn, .string ⟨#[]⟩, .bool cab, .slice a1 n1 c1, .slice (some ⟨b, off, none⟩) n2 c2, .slice a3 n3 c3] w2) := Lib.hid (KK1.out.step (q2.below _))
                       obtain ⟨g2, _⟩ := bcell (q2.below (wr.heap.size + 1))))
              go_ret2
              exact ⟨⟨_, rfl, fun _ => by first | (simp; done) | (simp; omega)⟩, KK2.out.low⟩
            have RC := Lib.hid (fun W => right_of yc p4 true hR2 W)
            rcases hD : (ck.take k).any (fun x => decide (x.role = yn)) with _ | _
            rotate_left
            · have HD := Lib.hid hD
              have hz := Hbad.out 40 (by simp only [kidE]; rw [if_neg m32, if_neg (by rw [hR, hR2]; simp), if_pos hD]) (by omega)
              rw [hz]; clear hz Hbad Hgood
              go_wp2_with (first
                    | (go_at_call 18
                       with_reducible refine (RR.out _).mono ?_
                       rintro e w1 ⟨rfl, q1⟩
                       have PP1 : Hid (Kept wr wr.heap.size 62 #[.string yn, .string yc, .int .i64 ymi, .int .i64 yma] w1) := Lib.hid ((Kept.new wr _ _).step (q1.below _))
                       have KK1 : Hid (Kept w w.heap.size 47 #[.string cn, .string ⟨#[]⟩, .bool cab, .slice a1 n1 c1, .slice (some ⟨b, off, none⟩) n2 c2, .slice a3 n3 c3] w1) := Lib.hid ((hK.out.alloc _).step (q1.below _))
                       obtain ⟨g1, _⟩ := bcell (q1.below (wr.heap.size + 1)))
                    | (go_at_call 18
                       with_reducible refine (RC.out _).mono ?_
                       rintro e w2 ⟨rfl, q2⟩
                       have PP2 : Hid (Kept wr wr.heap.size 62 #[.string yn, .string yc, .int .i64 ymi, .int .i64 yma] w2) := Lib.hid (PP1.out.step (q2.below _))
                       have KK2 : Hid (Kept w w.heap.size 47 #[.string cn, .string ⟨#[]⟩, .bool cab, .slice a1 n1 c1, .slice (some ⟨b, off, none⟩) n2 c2, .slice a3 n3 c3] w2) := Lib.hid (KK1.out.step (q2.below _))
                       obtain ⟨g2, _⟩ := bcell (q2.below (wr.heap.size + 1)))
                    | (go_at_call 69
                       with_reducible refine (dup_KidDef w0 _ wr.heap.size yn k S2.out (HWr.out.trans (PP2.out.low.mono HWr.out.size)) (PP2.out.blk.cell (i := 0) rfl) (by rw [L2.out]; exact hk) _ HD.out).mono ?_
                       rintro e w3 ⟨rfl, b3⟩
                       have PP3 : Hid (Kept wr wr.heap.size 62 #[.string yn, .string yc, .int .i64 ymi, .int .i64 yma] w3) := Lib.hid (PP2.out.step b3)
                       have KK3 : Hid (Kept w w.heap.size 47 #[.string cn, .string ⟨#[]⟩, .bool cab, .slice a1 n1 c1, .slice (some ⟨b, off, none⟩) n2 c2, .slice a3 n3 c3] w3) := Lib.hid (KK2.out.step b3)
                       obtain ⟨g3, _⟩ := bcell (b3.mono PP2.out.blk.lt)))
              go_ret2
              exact ⟨⟨_, rfl, fun _ => by first | (simp; done) | (simp; omega)⟩, KK3.out.low⟩
            have HD := Lib.hid hD
            by_cases t1 : ymi ≠ 0 ∧ ymi ≠ 1
            · obtain ⟨z1, hz1⟩ : ∃ z, bits .andNot .i64 ymi 1 = z := ⟨_, rfl⟩
              have hz0 : ¬ z1 = 0 := by rw [← hz1]; intro e; have := (bits_one ymi p1).1 e; omega
              have hz2 : (z1 != 0) = true := by simpa using hz0
              have hz := Hbad.out 44 (by simp only [kidE]; rw [if_neg m32, if_neg (by rw [hR, hR2]; simp), if_neg (by rw [hD]; simp), if_pos (.inl t1)]) (by omega)
              rw [hz]; clear hz Hbad Hgood
              go_wp2_with (first
                    | (go_at_call 18
                       with_reducible refine (RR.out _).mono ?_
                       rintro e w1 ⟨rfl, q1⟩
                       have PP1 : Hid (Kept wr wr.heap.size 62 #[.string yn, .string yc, .int .i64 ymi, .int .i64 yma] w1) := Lib.hid ((Kept.new wr _ _).step (q1.below _))
                       have KK1 : Hid (Kept w w.heap.size 47 #[.string cn, .string ⟨#[]⟩, .bool cab, .slice a1 n1 c1, .slice (some ⟨b, off, none⟩) n2 c2, .slice a3 n3 c3] w1) := Lib.hid ((hK.out.alloc _).step (q1.below _))
                       obtain ⟨g1, _⟩ := bcell (q1.below (wr.heap.size + 1)))
                    | (go_at_call 18
                       with_reducible refine (RC.out _).mono ?_
                       rintro e w2 ⟨rfl, q2⟩
                       have PP2 : Hid (Kept wr wr.heap.size 62 #[.string yn, .string yc, .int .i64 ymi, .int .i64 yma] w2) := Lib.hid (PP1.out.step (q2.below _))
                       have KK2 : Hid (Kept w w.heap.size 47 #[.string cn, .string ⟨#[]⟩, .bool cab, .slice a1 n1 c1, .slice (some ⟨b, off, none⟩) n2 c2, .slice a3 n3 c3] w2) := Lib.hid (KK1.out.step (q2.below _))
                       obtain ⟨g2, _⟩ := bcell (q2.below (wr.heap.size + 1)))
                    | (go_at_call 69
                       with_reducible refine (dup_KidDef w0 _ wr.heap.size yn k S2.out (HWr.out.trans (PP2.out.low.mono HWr.out.size)) (PP2.out.blk.cell (i := 0) rfl) (by rw [L2.out]; exact hk) _ HD.out).mono ?_
                       rintro e w3 ⟨rfl, b3⟩
                       have PP3 : Hid (Kept wr wr.heap.size 62 #[.string yn, .string yc, .int .i64 ymi, .int .i64 yma] w3) := Lib.hid (PP2.out.step b3)
                       have KK3 : Hid (Kept w w.heap.size 47 #[.string cn, .string ⟨#[]⟩, .bool cab, .slice a1 n1 c1, .slice (some ⟨b, off, none⟩) n2 c2, .slice a3 n3 c3] w3) := Lib.hid (KK2.out.step b3)
                       obtain ⟨g3, _⟩ := bcell (b3.mono PP2.out.blk.lt)))
              go_ret2
              exact ⟨⟨_, rfl, fun _ => by first | (simp; done) | (simp; omega)⟩, KK3.out.low⟩
            have hz1 : bits .andNot .i64 ymi 1 = 0 := (bits_one ymi p1).2 (by omega)
            by_cases t4 : yma ≠ 0 ∧ yma ≠ 1
            · obtain ⟨z2, hz2⟩ : ∃ z, bits .andNot .i64 yma 1 = z := ⟨_, rfl⟩
              have hz0 : ¬ z2 = 0 := by rw [← hz2]; intro e; have := (bits_one yma p2).1 e; omega
              have hz3 : (z2 != 0) = true := by simpa using hz0
              have hz := Hbad.out 44 (by simp only [kidE]; rw [if_neg m32, if_neg (by rw [hR, hR2]; simp), if_neg (by rw [hD]; simp), if_pos (.inr t4)]) (by omega)
              rw [hz]; clear hz Hbad Hgood
              go_wp2_with (first
                    | (go_at_call 18
                       with_reducible refine (RR.out _).mono ?_
                       rintro e w1 ⟨rfl, q1⟩
                       have PP1 : Hid (Kept wr wr.heap.size 62 #[.string yn, .string yc, .int .i64 ymi, .int .i64 yma] w1) := Lib.hid ((Kept.new wr _ _).step (q1.below _))
                       have KK1 : Hid (Kept w w.heap.size 47 #[.string cn, .string ⟨#[]⟩, .bool cab, .slice a1 n1 c1, .slice (some ⟨b, off, none⟩) n2 c2, .slice a3 n3 c3] w1) := Lib.hid ((hK.out.alloc _).step (q1.below _))
                       obtain ⟨g1, _⟩ := bcell (q1.below (wr.heap.size + 1)))
                    | (go_at_call 18
                       with_reducible refine (RC.out _).mono ?_
                       rintro e w2 ⟨rfl, q2⟩
                       have PP2 : Hid (Kept wr wr.heap.size 62 #[.string yn, .string yc, .int .i64 ymi, .int .i64 yma] w2) := Lib.hid (PP1.out.step (q2.below _))
                       have KK2 : Hid (Kept w w.heap.size 47 #[.string cn, .string ⟨#[]⟩, .bool cab, .slice a1 n1 c1, .slice (some ⟨b, off, none⟩) n2 c2, .slice a3 n3 c3] w2) := Lib.hid (KK1.out.step (q2.below _))
                       obtain ⟨g2, _⟩ := bcell (q2.below (wr.heap.size + 1)))
                    | (go_at_call 69
                       with_reducible refine (dup_KidDef w0 _ wr.heap.size yn k S2.out (HWr.out.trans (PP2.out.low.mono HWr.out.size)) (PP2.out.blk.cell (i := 0) rfl) (by rw [L2.out]; exact hk) _ HD.out).mono ?_
                       rintro e w3 ⟨rfl, b3⟩
                       have PP3 : Hid (Kept wr wr.heap.size 62 #[.string yn, .string yc, .int .i64 ymi, .int .i64 yma] w3) := Lib.hid (PP2.out.step b3)
                       have KK3 : Hid (Kept w w.heap.size 47 #[.string cn, .string ⟨#[]⟩, .bool cab, .slice a1 n1 c1, .slice (some ⟨b, off, none⟩) n2 c2, .slice a3 n3 c3] w3) := Lib.hid (KK2.out.step b3)
                       obtain ⟨g3, _⟩ := bcell (b3.mono PP2.out.blk.lt)))
              go_ret2
              exact ⟨⟨_, rfl, fun _ => by first | (simp; done) | (simp; omega)⟩, KK3.out.low⟩
            have hz2 : bits .andNot .i64 yma 1 = 0 := (bits_one yma p2).2 (by omega)
            have hz := Hgood.out (by simp only [kidE]; rw [if_neg m32, if_neg (by rw [hR, hR2]; simp), if_neg (by rw [hD]; simp), if_neg (by omega)])
            have HZ := Lib.hid hz
            clear hz Hbad Hgood
            go_wp2_with (first
                  | (go_at_call 18
                     with_reducible refine (RR.out _).mono ?_
                     rintro e w1 ⟨rfl, q1⟩
                     have PP1 : Hid (Kept wr wr.heap.size 62 #[.string yn, .string yc, .int .i64 ymi, .int .i64 yma] w1) := Lib.hid ((Kept.new wr _ _).step (q1.below _))
                     have KK1 : Hid (Kept w w.heap.size 47 #[.string cn, .string ⟨#[]⟩, .bool cab, .slice a1 n1 c1, .slice (some ⟨b, off, none⟩) n2 c2, .slice a3 n3 c3] w1) := Lib.hid ((hK.out.alloc _).step (q1.below _))
                     obtain ⟨g1, _⟩ := bcell (q1.below (wr.heap.size + 1)))
                  | (go_at_call 18
                     with_reducible refine (RC.out _).mono ?_
                     rintro e w2 ⟨rfl, q2⟩
                     have PP2 : Hid (Kept wr wr.heap.size 62 #[.string yn, .string yc, .int .i64 ymi, .int .i64 yma] w2) := Lib.hid (PP1.out.step (q2.below _))
                     have KK2 : Hid (Kept w w.heap.size 47 #[.string cn, .string ⟨#[]⟩, .bool cab, .slice a1 n1 c1, .slice (some ⟨b, off, none⟩) n2 c2, .slice a3 n3 c3] w2) := Lib.hid (KK1.out.step (q2.below _))
                     obtain ⟨g2, _⟩ := bcell (q2.below (wr.heap.size + 1)))
                  | (go_at_call 69
                     with_reducible refine (dup_KidDef w0 _ wr.heap.size yn k S2.out (HWr.out.trans (PP2.out.low.mono HWr.out.size)) (PP2.out.blk.cell (i := 0) rfl) (by rw [L2.out]; exact hk) _ HD.out).mono ?_
                     rintro e w3 ⟨rfl, b3⟩
                     have PP3 : Hid (Kept wr wr.heap.size 62 #[.string yn, .string yc, .int .i64 ymi, .int .i64 yma] w3) := Lib.hid (PP2.out.step b3)
                     have KK3 : Hid (Kept w w.heap.size 47 #[.string cn, .string ⟨#[]⟩, .bool cab, .slice a1 n1 c1, .slice (some ⟨b, off, none⟩) n2 c2, .slice a3 n3 c3] w3) := Lib.hid (KK2.out.step b3)
                     obtain ⟨g3, _⟩ := bcell (b3.mono PP2.out.blk.lt)))
            go_roundw
            case rel => exact ⟨k + 1, by omega, by omega, by go_num, by go_num, KK3, HZ⟩
            case measure => simp [intOf]; omega
          · obtain rfl : n2 = k := by omega
            clear hlt
            have F2 := Lib.hid (show firstE (kidE ck) 0 ck = none by rw [hf.out]; exact firstE_end (by rw [L2.out]; exact Nat.le_refl _))
            have hKf := hK
            obtain ⟨wo, hwo⟩ : ∃ wo, wo = wr := ⟨wr, rfl⟩
            subst hwo
            have kk : wo.cell? ⟨w.heap.size, 5, none⟩ = some (.slice a3 n3 c3) := hK.out.blk.cell rfl
            clear hf hK hk
            go_wp2_with fail
            go_loopw [6, 11, 12, 127, 134, 138, 150] (fun p6 _ _ j _ _ _ wr => ∃ k : Nat, k ≤ n3 ∧ k ≤ 32 ∧ p6 = .int .i64 ((n1 + n2 + k : Nat) : Int) ∧ j = .int .i64 (k : Int) ∧ Hid (Kept w w.heap.size 47 #[.string cn, .string ⟨#[]⟩, .bool cab, .slice a1 n1 c1, .slice a2 n2 c2, .slice a3 n3 c3] wr) ∧ Hid (firstE (refE cr) 0 cr = firstE (refE cr) k (cr.drop k))) (fun p6 _ _ j _ _ _ _ => n3 - (intOf j).toNat)
            case atStart => exact ⟨0, Nat.zero_le _, by omega, rfl, rfl, hKf, Lib.hid (by rw [List.drop_zero])⟩
            case round =>
              obtain ⟨k, hk, hk32, rfl, rfl, hK, hf⟩ := hrel
              by_cases hlt : k < n3
              · obtain ⟨⟨yn, yc, yb⟩, hd⟩ : ∃ y : RefDef, cr[k]? = some y := get_some L3.out hlt
                have hWr := HW.out.trans (hK.out.low.mono HW.out.size)
                obtain ⟨b, off, x, rfl, hbB, hxl, ⟨rfl, p1, p2⟩, hx⟩ := (S3.out.below hWr).at_ hd
                simp only [RefDef.cells] at hx p1 p2
                have h0 := hx 0 _ rfl
                have h1 := hx 1 _ rfl
                have h2 := hx 2 _ rfl
                simp only [Nat.add_zero] at h0
                have kk : wr.cell? ⟨w.heap.size, 5, none⟩ = some (.slice (some ⟨b, off, none⟩) n3 c3) := hK.out.blk.cell rfl
                have l0 : w.heap.size < wr.heap.size := hK.out.blk.lt
                have l1 : w.heap.size < wr.heap.size + 1 := by omega
                have hcap : k ≤ c3 := by have := S3.out.caps; omega
                have hst := firstE_step (f := refE cr) hd
                rw [← hf.out] at hst
                have Hst := Lib.hid hst
                have Hd := Lib.hid hd
                have HWr := Lib.hid hWr
                have Hbad : Hid (∀ e, refE cr k ⟨yn, yc, yb⟩ = e → e ≠ 0 → conceptA ahead ⟨cn, ⟨#[]⟩, cab, cp, ck, cr⟩ = (1 + (n1 + n2 + k), e)) := by
                  intro e he h0
                  rw [HC.out]
                  have hs : firstE (refE cr) 0 cr = some (k, e) := by rw [Hst.out, if_pos (by rw [he]; exact h0), he]
                  exact (partsE_r F1.out F2.out hs).trans (by rw [L1.out, L2.out]; simp only [Nat.add_assoc])
                have Hgood : Hid (refE cr k ⟨yn, yc, yb⟩ = 0 → firstE (refE cr) 0 cr = firstE (refE cr) (k + 1) (cr.drop (k + 1))) := by
                  intro he
                  rw [Hst.out, if_neg (by rw [he]; simp)]
                clear hd hx hxl hWr hf hst
                by_cases h32 : k = 32
                · subst h32
                  have hz := Hbad.out 4 (by simp [refE]) (by omega)
                  rw [hz]; clear hz Hbad Hgood
                  go_wp2_with fail
                  go_ret2
                  exact ⟨⟨_, rfl, fun _ => by first | (simp; done) | (simp; omega)⟩, (hK.out.alloc _).low⟩
                have hkl : k < 32 := by omega
                have e32 : ((k : Int) == 32) = false := by simp; omega
                have n32 : ¬ (k : Int) = 32 := by omega
                have m32 : ¬ 32 ≤ k := by omega
                rcases hR : okName yn with _ | _
                · have RR := Lib.hid (fun W => right_of yn p1 false hR W)
                  have hz := Hbad.out 2 (by simp only [refE]; rw [if_neg m32, if_pos (.inl hR)]) (by omega)
                  rw [hz]; clear hz Hbad Hgood
                  go_wp2_with (first
                        | (go_at_call 18
                           with_reducible refine (RR.out _).mono ?_
                           rintro e w1 ⟨rfl, q1⟩
                           have PP1 : Hid (Kept wr wr.heap.size 107 #[.string yn, .string yc, .bool yb] w1) := Lib.hid ((Kept.new wr _ _).step (q1.below _))
                           have KK1 : Hid (Kept w w.heap.size 47 #[.string cn, .string ⟨#[]⟩, .bool cab, .slice a1 n1 c1, .slice a2 n2 c2, .slice (some ⟨b, off, none⟩) n3 c3] w1) := Lib.hid ((hK.out.alloc _).step (q1.below _))
                           obtain ⟨g1, _⟩ := bcell (q1.below (wr.heap.size + 1))))
                  go_ret2
                  exact ⟨⟨_, rfl, fun _ => by first | (simp; done) | (simp; omega)⟩, KK1.out.low⟩
                have RR := Lib.hid (fun W => right_of yn p1 true hR W)
                rcases hR2 : okName yc with _ | _
                · have RC := Lib.hid (fun W => right_of yc p2 false hR2 W)
                  have hz := Hbad.out 2 (by simp only [refE]; rw [if_neg m32, if_pos (.inr hR2)]) (by omega)
                  rw [hz]; clear hz Hbad Hgood
                  go_wp2_with (first
                        | (go_at_call 18
                           with_reducible refine (RR.out _).mono ?_
                           rintro e w1 ⟨rfl, q1⟩
                           have PP1 : Hid (Kept wr wr.heap.size 107 #[.string yn, .string yc, .bool yb] w1) := Lib.hid ((Kept.new wr _ _).step (q1.below _))
                           have KK1 : Hid (Kept w w.heap.size 47 #[.string cn, .string ⟨#[]⟩, .bool cab, .slice a1 n1 c1, .slice a2 n2 c2, .slice (some ⟨b, off, none⟩) n3 c3] w1) := Lib.hid ((hK.out.alloc _).step (q1.below _))
                           obtain ⟨g1, _⟩ := bcell (q1.below (wr.heap.size + 1)))
                        | (go_at_call 18
                           with_reducible refine (RC.out _).mono ?_
                           rintro e w2 ⟨rfl, q2⟩
                           have PP2 : Hid (Kept wr wr.heap.size 107 #[.string yn, .string yc, .bool yb] w2) := Lib.hid (PP1.out.step (q2.below _))
                           have KK2 : Hid (Kept w w.heap.size 47 #[.string cn, .string ⟨#[]⟩, .bool cab, .slice a1 n1 c1, .slice a2 n2 c2, .slice (some ⟨b, off, none⟩) n3 c3] w2) := Lib.hid (KK1.out.step (q2.below _))
                           obtain ⟨g2, _⟩ := bcell (q2.below (wr.heap.size + 1))))
                  go_ret2
                  exact ⟨⟨_, rfl, fun _ => by first | (simp; done) | (simp; omega)⟩, KK2.out.low⟩
                have RC := Lib.hid (fun W => right_of yc p2 true hR2 W)
                rcases hD : (cr.take k).any (fun x => decide (x.role = yn)) with _ | _
                rotate_left
                · have HD := Lib.hid hD
                  have hz := Hbad.out 40 (by simp only [refE]; rw [if_neg m32, if_neg (by rw [hR, hR2]; simp), if_pos hD]) (by omega)
                  rw [hz]; clear hz Hbad Hgood
                  go_wp2_with (first
                        | (go_at_call 18
                           with_reducible refine (RR.out _).mono ?_
                           rintro e w1 ⟨rfl, q1⟩
                           have PP1 : Hid (Kept wr wr.heap.size 107 #[.string yn, .string yc, .bool yb] w1) := Lib.hid ((Kept.new wr _ _).step (q1.below _))
                           have KK1 : Hid (Kept w w.heap.size 47 #[.string cn, .string ⟨#[]⟩, .bool cab, .slice a1 n1 c1, .slice a2 n2 c2, .slice (some ⟨b, off, none⟩) n3 c3] w1) := Lib.hid ((hK.out.alloc _).step (q1.below _))
                           obtain ⟨g1, _⟩ := bcell (q1.below (wr.heap.size + 1)))
                        | (go_at_call 18
                           with_reducible refine (RC.out _).mono ?_
                           rintro e w2 ⟨rfl, q2⟩
                           have PP2 : Hid (Kept wr wr.heap.size 107 #[.string yn, .string yc, .bool yb] w2) := Lib.hid (PP1.out.step (q2.below _))
                           have KK2 : Hid (Kept w w.heap.size 47 #[.string cn, .string ⟨#[]⟩, .bool cab, .slice a1 n1 c1, .slice a2 n2 c2, .slice (some ⟨b, off, none⟩) n3 c3] w2) := Lib.hid (KK1.out.step (q2.below _))
                           obtain ⟨g2, _⟩ := bcell (q2.below (wr.heap.size + 1)))
                        | (go_at_call 71
                           with_reducible refine (dup_RefDef w0 _ wr.heap.size yn k S3.out (HWr.out.trans (PP2.out.low.mono HWr.out.size)) (PP2.out.blk.cell (i := 0) rfl) (by rw [L3.out]; exact hk) _ HD.out).mono ?_
                           rintro e w3 ⟨rfl, b3⟩
                           have PP3 : Hid (Kept wr wr.heap.size 107 #[.string yn, .string yc, .bool yb] w3) := Lib.hid (PP2.out.step b3)
                           have KK3 : Hid (Kept w w.heap.size 47 #[.string cn, .string ⟨#[]⟩, .bool cab, .slice a1 n1 c1, .slice a2 n2 c2, .slice (some ⟨b, off, none⟩) n3 c3] w3) := Lib.hid (KK2.out.step b3)
                           obtain ⟨g3, _⟩ := bcell (b3.mono PP2.out.blk.lt)))
                  go_ret2
                  exact ⟨⟨_, rfl, fun _ => by first | (simp; done) | (simp; omega)⟩, KK3.out.low⟩
                have HD := Lib.hid hD
                have hz := Hgood.out (by simp only [refE]; rw [if_neg m32, if_neg (by rw [hR, hR2]; simp), if_neg (by rw [hD]; simp)])
                have HZ := Lib.hid hz
                clear hz Hbad Hgood
                go_wp2_with (first
                      | (go_at_call 18
                         with_reducible refine (RR.out _).mono ?_
                         rintro e w1 ⟨rfl, q1⟩
                         have PP1 : Hid (Kept wr wr.heap.size 107 #[.string yn, .string yc, .bool yb] w1) := Lib.hid ((Kept.new wr _ _).step (q1.below _))
                         have KK1 : Hid (Kept w w.heap.size 47 #[.string cn, .string ⟨#[]⟩, .bool cab, .slice a1 n1 c1, .slice a2 n2 c2, .slice (some ⟨b, off, none⟩) n3 c3] w1) := Lib.hid ((hK.out.alloc _).step (q1.below _))
                         obtain ⟨g1, _⟩ := bcell (q1.below (wr.heap.size + 1)))
                      | (go_at_call 18
                         with_reducible refine (RC.out _).mono ?_
                         rintro e w2 ⟨rfl, q2⟩
                         have PP2 : Hid (Kept wr wr.heap.size 107 #[.string yn, .string yc, .bool yb] w2) := Lib.hid (PP1.out.step (q2.below _))
                         have KK2 : Hid (Kept w w.heap.size 47 #[.string cn, .string ⟨#[]⟩, .bool cab, .slice a1 n1 c1, .slice a2 n2 c2, .slice (some ⟨b, off, none⟩) n3 c3] w2) := Lib.hid (KK1.out.step (q2.below _))
                         obtain ⟨g2, _⟩ := bcell (q2.below (wr.heap.size + 1)))
                      | (go_at_call 71
                         with_reducible refine (dup_RefDef w0 _ wr.heap.size yn k S3.out (HWr.out.trans (PP2.out.low.mono HWr.out.size)) (PP2.out.blk.cell (i := 0) rfl) (by rw [L3.out]; exact hk) _ HD.out).mono ?_
                         rintro e w3 ⟨rfl, b3⟩
                         have PP3 : Hid (Kept wr wr.heap.size 107 #[.string yn, .string yc, .bool yb] w3) := Lib.hid (PP2.out.step b3)
                         have KK3 : Hid (Kept w w.heap.size 47 #[.string cn, .string ⟨#[]⟩, .bool cab, .slice a1 n1 c1, .slice a2 n2 c2, .slice (some ⟨b, off, none⟩) n3 c3] w3) := Lib.hid (KK2.out.step b3)
                         obtain ⟨g3, _⟩ := bcell (b3.mono PP2.out.blk.lt)))
                go_roundw
                case rel => exact ⟨k + 1, by omega, by omega, by go_num, by go_num, KK3, HZ⟩
                case measure => simp [intOf]; omega
              · obtain rfl : n3 = k := by omega
                clear hlt
                have F3 := Lib.hid (show firstE (refE cr) 0 cr = none by rw [hf.out]; exact firstE_end (by rw [L3.out]; exact Nat.le_refl _))
                have hKf := hK
                obtain ⟨wo, hwo⟩ : ∃ wo, wo = wr := ⟨wr, rfl⟩
                subst hwo
                clear hf hK hk
                have hz : conceptA ahead ⟨cn, ⟨#[]⟩, cab, cp, ck, cr⟩ = (0, 0) := by rw [HC.out]; exact partsE_0 F1.out F2.out F3.out
                have HZ := Lib.hid hz
                clear hz
                go_wp2_with fail
                go_ret2
                exact ⟨⟨((n1 + n2 + n3 : Nat) : Int), by rw [HZ.out]; rfl, fun h => absurd (by rw [HZ.out]) h⟩, hKf.out.low⟩
  · have hsr : okName cs = true := by rcases h : okName cs with _ | _; exact absurd ⟨h0, h⟩ hC; rfl
    have RS := Lib.hid (fun W => right_of cs o2 true hsr W)
    have ne1 : ¬ cs.toList = [] := ne_empty h0
    have ne2 : (cs.toList == []) = false := by simpa using ne1
    have ne3 : ¬ cs.toList = cn.toList := fun e => hD ((toList_inj _ _).1 e)
    have ne4 : (cs.toList == cn.toList) = false := by simpa using ne3
    clear hA hB hC hD h0 hsr
    go_enter Tryz.func25, Tryz.ntmps25
    go_wp2_with (first
    | (go_at_call 18
       with_reducible refine (RA.out _).mono ?_
       rintro e w1 ⟨rfl, q1⟩
       have K1 : Hid (Kept w w.heap.size 47 #[.string cn, .string cs, .bool cab, .slice a1 n1 c1, .slice a2 n2 c2, .slice a3 n3 c3] w1) := Lib.hid ((Kept.new w _ _).step (q1.below _))
       obtain ⟨g1, _⟩ := bcell (q1.below (w.heap.size + 1))
       have B1 : Hid (Below w.heap.size w w1) := Lib.hid K1.out.low)
    | (go_at_call 65
       refine (dup_Concept w0 _ w.heap.size cn nv HS.out (HW.out.trans (K1.out.low.mono HW.out.size)) (K1.out.blk.cell (i := 0) rfl) (by rw [Hnv.out]; exact Nat.le_refl _) _ HB.out).mono ?_
       rintro e w2 ⟨rfl, b2⟩
       have K2 : Hid (Kept w w.heap.size 47 #[.string cn, .string cs, .bool cab, .slice a1 n1 c1, .slice a2 n2 c2, .slice a3 n3 c3] w2) := Lib.hid (K1.out.step b2)
       obtain ⟨g2, _⟩ := bcell (b2.mono K1.out.blk.lt)
       have B2 : Hid (Below w.heap.size w w2) := Lib.hid K2.out.low)
    | (go_at_call 18
       with_reducible refine (RS.out _).mono ?_
       rintro e w3 ⟨rfl, q3⟩
       have K3 : Hid (Kept w w.heap.size 47 #[.string cn, .string cs, .bool cab, .slice a1 n1 c1, .slice a2 n2 c2, .slice a3 n3 c3] w3) := Lib.hid (K2.out.step (q3.below _))
       obtain ⟨g3, _⟩ := bcell (b2.mono K1.out.blk.lt |>.trans (q3.below _))
       have B3 : Hid (Below w.heap.size w w3) := Lib.hid K3.out.low))
    have kk : w3.cell? ⟨w.heap.size, 3, none⟩ = some (.slice a1 n1 c1) := K3.out.blk.cell rfl
    go_loopw [6, 7, 8, 41, 48, 52, 58, 66] (fun p6 _ _ j _ _ _ _ wr => ∃ k : Nat, k ≤ n1 ∧ k ≤ 32 ∧ p6 = .int .i64 ((k : Nat) : Int) ∧ j = .int .i64 (k : Int) ∧ Hid (Kept w w.heap.size 47 #[.string cn, .string cs, .bool cab, .slice a1 n1 c1, .slice a2 n2 c2, .slice a3 n3 c3] wr) ∧ Hid (firstE (propE cp) 0 cp = firstE (propE cp) k (cp.drop k))) (fun p6 _ _ j _ _ _ _ _ => n1 - (intOf j).toNat)
    case atStart => exact ⟨0, Nat.zero_le _, by omega, rfl, rfl, K3, Lib.hid (by rw [List.drop_zero])⟩
    case round =>
      obtain ⟨k, hk, hk32, rfl, rfl, hK, hf⟩ := hrel
      by_cases hlt : k < n1
      · obtain ⟨⟨yn, yt⟩, hd⟩ : ∃ y : PropDef, cp[k]? = some y := get_some L1.out hlt
        have hWr := HW.out.trans (hK.out.low.mono HW.out.size)
        obtain ⟨b, off, x, rfl, hbB, hxl, ⟨rfl, p1, p2⟩, hx⟩ := (S1.out.below hWr).at_ hd
        simp only [PropDef.cells] at hx p1 p2
        have h0 := hx 0 _ rfl
        have h1 := hx 1 _ rfl
        simp only [Nat.add_zero] at h0
        have kk : wr.cell? ⟨w.heap.size, 3, none⟩ = some (.slice (some ⟨b, off, none⟩) n1 c1) := hK.out.blk.cell rfl
        have l0 : w.heap.size < wr.heap.size := hK.out.blk.lt
        have l1 : w.heap.size < wr.heap.size + 1 := by omega
        have hcap : k ≤ c1 := by have := S1.out.caps; omega
        have hst := firstE_step (f := propE cp) hd
        rw [← hf.out] at hst
        have Hst := Lib.hid hst
        have Hd := Lib.hid hd
        have HWr := Lib.hid hWr
        have Hbad : Hid (∀ e, propE cp k ⟨yn, yt⟩ = e → e ≠ 0 → conceptA ahead ⟨cn, cs, cab, cp, ck, cr⟩ = (1 + (k), e)) := by
          intro e he h0
          rw [HC.out]
          have hs : firstE (propE cp) 0 cp = some (k, e) := by rw [Hst.out, if_pos (by rw [he]; exact h0), he]
          exact partsE_p hs
        have Hgood : Hid (propE cp k ⟨yn, yt⟩ = 0 → firstE (propE cp) 0 cp = firstE (propE cp) (k + 1) (cp.drop (k + 1))) := by
          intro he
          rw [Hst.out, if_neg (by rw [he]; simp)]
        clear hd hx hxl hWr hf hst
        by_cases h32 : k = 32
        · subst h32
          have hz := Hbad.out 4 (by simp [propE]) (by omega)
          rw [hz]; clear hz Hbad Hgood
          go_wp2_with fail
          go_ret2
          exact ⟨⟨_, rfl, fun _ => by first | (simp; done) | (simp; omega)⟩, (hK.out.alloc _).low⟩
        have hkl : k < 32 := by omega
        have e32 : ((k : Int) == 32) = false := by simp; omega
        have n32 : ¬ (k : Int) = 32 := by omega
        have m32 : ¬ 32 ≤ k := by omega
        rcases hR : okName yn with _ | _
        · have RR := Lib.hid (fun W => right_of yn p2 false hR W)
          have hz := Hbad.out 2 (by simp only [propE]; rw [if_neg m32, if_pos hR]) (by omega)
          rw [hz]; clear hz Hbad Hgood
          go_wp2_with (first
                | (go_at_call 18
                   with_reducible refine (RR.out _).mono ?_
                   rintro e w1 ⟨rfl, q1⟩
                   have PP1 : Hid (Kept wr wr.heap.size 105 #[.string yn, .int .i64 yt] w1) := Lib.hid ((Kept.new wr _ _).step (q1.below _))
                   have KK1 : Hid (Kept w w.heap.size 47 #[.string cn, .string cs, .bool cab, .slice (some ⟨b, off, none⟩) n1 c1, .slice a2 n2 c2, .slice a3 n3 c3] w1) := Lib.hid ((hK.out.alloc _).step (q1.below _))
                   obtain ⟨g1, _⟩ := bcell (q1.below (wr.heap.size + 1))))
          go_ret2
          exact ⟨⟨_, rfl, fun _ => by first | (simp; done) | (simp; omega)⟩, KK1.out.low⟩
        have RR := Lib.hid (fun W => right_of yn p2 true hR W)
        rcases hD : (cp.take k).any (fun x => decide (x.name = yn)) with _ | _
        rotate_left
        · have HD := Lib.hid hD
          have hz := Hbad.out 40 (by simp only [propE]; rw [if_neg m32, if_neg (by rw [hR]; simp), if_pos hD]) (by omega)
          rw [hz]; clear hz Hbad Hgood
          go_wp2_with (first
                | (go_at_call 18
                   with_reducible refine (RR.out _).mono ?_
                   rintro e w1 ⟨rfl, q1⟩
                   have PP1 : Hid (Kept wr wr.heap.size 105 #[.string yn, .int .i64 yt] w1) := Lib.hid ((Kept.new wr _ _).step (q1.below _))
                   have KK1 : Hid (Kept w w.heap.size 47 #[.string cn, .string cs, .bool cab, .slice (some ⟨b, off, none⟩) n1 c1, .slice a2 n2 c2, .slice a3 n3 c3] w1) := Lib.hid ((hK.out.alloc _).step (q1.below _))
                   obtain ⟨g1, _⟩ := bcell (q1.below (wr.heap.size + 1)))
                | (go_at_call 67
                   with_reducible refine (dup_PropDef w0 _ wr.heap.size yn k S1.out (HWr.out.trans (PP1.out.low.mono HWr.out.size)) (PP1.out.blk.cell (i := 0) rfl) (by rw [L1.out]; exact hk) _ HD.out).mono ?_
                   rintro e w3 ⟨rfl, b3⟩
                   have PP3 : Hid (Kept wr wr.heap.size 105 #[.string yn, .int .i64 yt] w3) := Lib.hid (PP1.out.step b3)
                   have KK3 : Hid (Kept w w.heap.size 47 #[.string cn, .string cs, .bool cab, .slice (some ⟨b, off, none⟩) n1 c1, .slice a2 n2 c2, .slice a3 n3 c3] w3) := Lib.hid (KK1.out.step b3)
                   obtain ⟨g3, _⟩ := bcell (b3.mono PP1.out.blk.lt)))
          go_ret2
          exact ⟨⟨_, rfl, fun _ => by first | (simp; done) | (simp; omega)⟩, KK3.out.low⟩
        have HD := Lib.hid hD
        by_cases t1 : yt < 1
        · have t1' : decide (yt < 1) = true := by simpa using t1
          have hz := Hbad.out 41 (by simp only [propE]; rw [if_neg m32, if_neg (by rw [hR]; simp), if_neg (by rw [hD]; simp), if_pos (.inl t1)]) (by omega)
          rw [hz]; clear hz Hbad Hgood
          go_wp2_with (first
                | (go_at_call 18
                   with_reducible refine (RR.out _).mono ?_
                   rintro e w1 ⟨rfl, q1⟩
                   have PP1 : Hid (Kept wr wr.heap.size 105 #[.string yn, .int .i64 yt] w1) := Lib.hid ((Kept.new wr _ _).step (q1.below _))
                   have KK1 : Hid (Kept w w.heap.size 47 #[.string cn, .string cs, .bool cab, .slice (some ⟨b, off, none⟩) n1 c1, .slice a2 n2 c2, .slice a3 n3 c3] w1) := Lib.hid ((hK.out.alloc _).step (q1.below _))
                   obtain ⟨g1, _⟩ := bcell (q1.below (wr.heap.size + 1)))
                | (go_at_call 67
                   with_reducible refine (dup_PropDef w0 _ wr.heap.size yn k S1.out (HWr.out.trans (PP1.out.low.mono HWr.out.size)) (PP1.out.blk.cell (i := 0) rfl) (by rw [L1.out]; exact hk) _ HD.out).mono ?_
                   rintro e w3 ⟨rfl, b3⟩
                   have PP3 : Hid (Kept wr wr.heap.size 105 #[.string yn, .int .i64 yt] w3) := Lib.hid (PP1.out.step b3)
                   have KK3 : Hid (Kept w w.heap.size 47 #[.string cn, .string cs, .bool cab, .slice (some ⟨b, off, none⟩) n1 c1, .slice a2 n2 c2, .slice a3 n3 c3] w3) := Lib.hid (KK1.out.step b3)
                   obtain ⟨g3, _⟩ := bcell (b3.mono PP1.out.blk.lt)))
          go_ret2
          exact ⟨⟨_, rfl, fun _ => by first | (simp; done) | (simp; omega)⟩, KK3.out.low⟩
        have t1' : decide (yt < 1) = false := by simpa using t1
        by_cases t4 : 4 < yt
        · have t4' : decide (4 < yt) = true := by simpa using t4
          have hz := Hbad.out 41 (by simp only [propE]; rw [if_neg m32, if_neg (by rw [hR]; simp), if_neg (by rw [hD]; simp), if_pos (.inr t4)]) (by omega)
          rw [hz]; clear hz Hbad Hgood
          go_wp2_with (first
                | (go_at_call 18
                   with_reducible refine (RR.out _).mono ?_
                   rintro e w1 ⟨rfl, q1⟩
                   have PP1 : Hid (Kept wr wr.heap.size 105 #[.string yn, .int .i64 yt] w1) := Lib.hid ((Kept.new wr _ _).step (q1.below _))
                   have KK1 : Hid (Kept w w.heap.size 47 #[.string cn, .string cs, .bool cab, .slice (some ⟨b, off, none⟩) n1 c1, .slice a2 n2 c2, .slice a3 n3 c3] w1) := Lib.hid ((hK.out.alloc _).step (q1.below _))
                   obtain ⟨g1, _⟩ := bcell (q1.below (wr.heap.size + 1)))
                | (go_at_call 67
                   with_reducible refine (dup_PropDef w0 _ wr.heap.size yn k S1.out (HWr.out.trans (PP1.out.low.mono HWr.out.size)) (PP1.out.blk.cell (i := 0) rfl) (by rw [L1.out]; exact hk) _ HD.out).mono ?_
                   rintro e w3 ⟨rfl, b3⟩
                   have PP3 : Hid (Kept wr wr.heap.size 105 #[.string yn, .int .i64 yt] w3) := Lib.hid (PP1.out.step b3)
                   have KK3 : Hid (Kept w w.heap.size 47 #[.string cn, .string cs, .bool cab, .slice (some ⟨b, off, none⟩) n1 c1, .slice a2 n2 c2, .slice a3 n3 c3] w3) := Lib.hid (KK1.out.step b3)
                   obtain ⟨g3, _⟩ := bcell (b3.mono PP1.out.blk.lt)))
          go_ret2
          exact ⟨⟨_, rfl, fun _ => by first | (simp; done) | (simp; omega)⟩, KK3.out.low⟩
        have t4' : decide (4 < yt) = false := by simpa using t4
        have hz := Hgood.out (by simp only [propE]; rw [if_neg m32, if_neg (by rw [hR]; simp), if_neg (by rw [hD]; simp), if_neg (by omega)])
        have HZ := Lib.hid hz
        clear hz Hbad Hgood
        go_wp2_with (first
              | (go_at_call 18
                 with_reducible refine (RR.out _).mono ?_
                 rintro e w1 ⟨rfl, q1⟩
                 have PP1 : Hid (Kept wr wr.heap.size 105 #[.string yn, .int .i64 yt] w1) := Lib.hid ((Kept.new wr _ _).step (q1.below _))
                 have KK1 : Hid (Kept w w.heap.size 47 #[.string cn, .string cs, .bool cab, .slice (some ⟨b, off, none⟩) n1 c1, .slice a2 n2 c2, .slice a3 n3 c3] w1) := Lib.hid ((hK.out.alloc _).step (q1.below _))
                 obtain ⟨g1, _⟩ := bcell (q1.below (wr.heap.size + 1)))
              | (go_at_call 67
                 with_reducible refine (dup_PropDef w0 _ wr.heap.size yn k S1.out (HWr.out.trans (PP1.out.low.mono HWr.out.size)) (PP1.out.blk.cell (i := 0) rfl) (by rw [L1.out]; exact hk) _ HD.out).mono ?_
                 rintro e w3 ⟨rfl, b3⟩
                 have PP3 : Hid (Kept wr wr.heap.size 105 #[.string yn, .int .i64 yt] w3) := Lib.hid (PP1.out.step b3)
                 have KK3 : Hid (Kept w w.heap.size 47 #[.string cn, .string cs, .bool cab, .slice (some ⟨b, off, none⟩) n1 c1, .slice a2 n2 c2, .slice a3 n3 c3] w3) := Lib.hid (KK1.out.step b3)
                 obtain ⟨g3, _⟩ := bcell (b3.mono PP1.out.blk.lt)))
        go_roundw
        case rel => exact ⟨k + 1, by omega, by omega, by go_num, by go_num, KK3, HZ⟩
        case measure => simp [intOf]; omega
      · obtain rfl : n1 = k := by omega
        clear hlt
        have F1 := Lib.hid (show firstE (propE cp) 0 cp = none by rw [hf.out]; exact firstE_end (by rw [L1.out]; exact Nat.le_refl _))
        have hKf := hK
        obtain ⟨wo, hwo⟩ : ∃ wo, wo = wr := ⟨wr, rfl⟩
        subst hwo
        have kk : wo.cell? ⟨w.heap.size, 4, none⟩ = some (.slice a2 n2 c2) := hK.out.blk.cell rfl
        clear hf hK hk
        go_wp2_with fail
        go_loopw [6, 9, 10, 80, 87, 91, 103, 111] (fun p6 _ _ j _ _ _ _ wr => ∃ k : Nat, k ≤ n2 ∧ k ≤ 32 ∧ p6 = .int .i64 ((n1 + k : Nat) : Int) ∧ j = .int .i64 (k : Int) ∧ Hid (Kept w w.heap.size 47 #[.string cn, .string cs, .bool cab, .slice a1 n1 c1, .slice a2 n2 c2, .slice a3 n3 c3] wr) ∧ Hid (firstE (kidE ck) 0 ck = firstE (kidE ck) k (ck.drop k))) (fun p6 _ _ j _ _ _ _ _ => n2 - (intOf j).toNat)
        case atStart => exact ⟨0, Nat.zero_le _, by omega, rfl, rfl, hKf, Lib.hid (by rw [List.drop_zero])⟩
        case round =>
          obtain ⟨k, hk, hk32, rfl, rfl, hK, hf⟩ := hrel
          by_cases hlt : k < n2
          · obtain ⟨⟨yn, yc, ymi, yma⟩, hd⟩ : ∃ y : KidDef, ck[k]? = some y := get_some L2.out hlt
            have hWr := HW.out.trans (hK.out.low.mono HW.out.size)
            obtain ⟨b, off, x, rfl, hbB, hxl, ⟨rfl, p1, p2, p3, p4⟩, hx⟩ := (S2.out.below hWr).at_ hd
            simp only [KidDef.cells] at hx p1 p2 p3 p4
            have h0 := hx 0 _ rfl
            have h1 := hx 1 _ rfl
            have h2 := hx 2 _ rfl
            have h3 := hx 3 _ rfl
            simp only [Nat.add_zero] at h0
            have kk : wr.cell? ⟨w.heap.size, 4, none⟩ = some (.slice (some ⟨b, off, none⟩) n2 c2) := hK.out.blk.cell rfl
            have l0 : w.heap.size < wr.heap.size := hK.out.blk.lt
            have l1 : w.heap.size < wr.heap.size + 1 := by omega
            have hcap : k ≤ c2 := by have := S2.out.caps; omega
            have hst := firstE_step (f := kidE ck) hd
            rw [← hf.out] at hst
            have Hst := Lib.hid hst
            have Hd := Lib.hid hd
            have HWr := Lib.hid hWr
            have Hbad : Hid (∀ e, kidE ck k ⟨yn, yc, ymi, yma⟩ = e → e ≠ 0 → conceptA ahead ⟨cn, cs, cab, cp, ck, cr⟩ = (1 + (n1 + k), e)) := by
              intro e he h0
              rw [HC.out]
              have hs : firstE (kidE ck) 0 ck = some (k, e) := by rw [Hst.out, if_pos (by rw [he]; exact h0), he]
              exact (partsE_k F1.out hs).trans (by rw [L1.out, Nat.add_assoc])
            have Hgood : Hid (kidE ck k ⟨yn, yc, ymi, yma⟩ = 0 → firstE (kidE ck) 0 ck = firstE (kidE ck) (k + 1) (ck.drop (k + 1))) := by
              intro he
              rw [Hst.out, if_neg (by rw [he]; simp)]
            clear hd hx hxl hWr hf hst
            by_cases h32 : k = 32
            · subst h32
              have hz := Hbad.out 4 (by simp [kidE]) (by omega)
              rw [hz]; clear hz Hbad Hgood
              go_wp2_with fail
              go_ret2
              exact ⟨⟨_, rfl, fun _ => by first | (simp; done) | (simp; omega)⟩, (hK.out.alloc _).low⟩
            have hkl : k < 32 := by omega
            have e32 : ((k : Int) == 32) = false := by simp; omega
            have n32 : ¬ (k : Int) = 32 := by omega
            have m32 : ¬ 32 ≤ k := by omega
            rcases hR : okName yn with _ | _
            · have RR := Lib.hid (fun W => right_of yn p3 false hR W)
              have hz := Hbad.out 2 (by simp only [kidE]; rw [if_neg m32, if_pos (.inl hR)]) (by omega)
              rw [hz]; clear hz Hbad Hgood
              go_wp2_with (first
                    | (go_at_call 18
                       with_reducible refine (RR.out _).mono ?_
                       rintro e w1 ⟨rfl, q1⟩
                       have PP1 : Hid (Kept wr wr.heap.size 62 #[.string yn, .string yc, .int .i64 ymi, .int .i64 yma] w1) := Lib.hid ((Kept.new wr _ _).step (q1.below _))
                       have KK1 : Hid (Kept w w.heap.size 47 #[.string cn, .string cs, .bool cab, .slice a1 n1 c1, .slice (some ⟨b, off, none⟩) n2 c2, .slice a3 n3 c3] w1) := Lib.hid ((hK.out.alloc _).step (q1.below _))
                       obtain ⟨g1, _⟩ := bcell (q1.below (wr.heap.size + 1))))
              go_ret2
              exact ⟨⟨_, rfl, fun _ => by first | (simp; done) | (simp; omega)⟩, KK1.out.low⟩
            have RR := Lib.hid (fun W => right_of yn p3 true hR W)
            rcases hR2 : okName yc with _ | _
            · have RC := Lib.hid (fun W => right_of yc p4 false hR2 W)
              have hz := Hbad.out 2 (by simp only [kidE]; rw [if_neg m32, if_pos (.inr hR2)]) (by omega)
              rw [hz]; clear hz Hbad Hgood
              go_wp2_with (first
                    | (go_at_call 18
                       with_reducible refine (RR.out _).mono ?_
                       rintro e w1 ⟨rfl, q1⟩
                       have PP1 : Hid (Kept wr wr.heap.size 62 #[.string yn, .string yc, .int .i64 ymi, .int .i64 yma] w1) := Lib.hid ((Kept.new wr _ _).step (q1.below _))
                       have KK1 : Hid (Kept w w.heap.size 47 #[.string cn, .string cs, .bool cab, .slice a1 n1 c1, .slice (some ⟨b, off, none⟩) n2 c2, .slice a3 n3 c3] w1) := Lib.hid ((hK.out.alloc _).step (q1.below _))
                       obtain ⟨g1, _⟩ := bcell (q1.below (wr.heap.size + 1)))
                    | (go_at_call 18
                       with_reducible refine (RC.out _).mono ?_
                       rintro e w2 ⟨rfl, q2⟩
                       have PP2 : Hid (Kept wr wr.heap.size 62 #[.string yn, .string yc, .int .i64 ymi, .int .i64 yma] w2) := Lib.hid (PP1.out.step (q2.below _))
                       have KK2 : Hid (Kept w w.heap.size 47 #[.string cn, .string cs, .bool cab, .slice a1 n1 c1, .slice (some ⟨b, off, none⟩) n2 c2, .slice a3 n3 c3] w2) := Lib.hid (KK1.out.step (q2.below _))
                       obtain ⟨g2, _⟩ := bcell (q2.below (wr.heap.size + 1))))
              go_ret2
              exact ⟨⟨_, rfl, fun _ => by first | (simp; done) | (simp; omega)⟩, KK2.out.low⟩
            have RC := Lib.hid (fun W => right_of yc p4 true hR2 W)
            rcases hD : (ck.take k).any (fun x => decide (x.role = yn)) with _ | _
            rotate_left
            · have HD := Lib.hid hD
              have hz := Hbad.out 40 (by simp only [kidE]; rw [if_neg m32, if_neg (by rw [hR, hR2]; simp), if_pos hD]) (by omega)
              rw [hz]; clear hz Hbad Hgood
              go_wp2_with (first
                    | (go_at_call 18
                       with_reducible refine (RR.out _).mono ?_
                       rintro e w1 ⟨rfl, q1⟩
                       have PP1 : Hid (Kept wr wr.heap.size 62 #[.string yn, .string yc, .int .i64 ymi, .int .i64 yma] w1) := Lib.hid ((Kept.new wr _ _).step (q1.below _))
                       have KK1 : Hid (Kept w w.heap.size 47 #[.string cn, .string cs, .bool cab, .slice a1 n1 c1, .slice (some ⟨b, off, none⟩) n2 c2, .slice a3 n3 c3] w1) := Lib.hid ((hK.out.alloc _).step (q1.below _))
                       obtain ⟨g1, _⟩ := bcell (q1.below (wr.heap.size + 1)))
                    | (go_at_call 18
                       with_reducible refine (RC.out _).mono ?_
                       rintro e w2 ⟨rfl, q2⟩
                       have PP2 : Hid (Kept wr wr.heap.size 62 #[.string yn, .string yc, .int .i64 ymi, .int .i64 yma] w2) := Lib.hid (PP1.out.step (q2.below _))
                       have KK2 : Hid (Kept w w.heap.size 47 #[.string cn, .string cs, .bool cab, .slice a1 n1 c1, .slice (some ⟨b, off, none⟩) n2 c2, .slice a3 n3 c3] w2) := Lib.hid (KK1.out.step (q2.below _))
                       obtain ⟨g2, _⟩ := bcell (q2.below (wr.heap.size + 1)))
                    | (go_at_call 69
                       with_reducible refine (dup_KidDef w0 _ wr.heap.size yn k S2.out (HWr.out.trans (PP2.out.low.mono HWr.out.size)) (PP2.out.blk.cell (i := 0) rfl) (by rw [L2.out]; exact hk) _ HD.out).mono ?_
                       rintro e w3 ⟨rfl, b3⟩
                       have PP3 : Hid (Kept wr wr.heap.size 62 #[.string yn, .string yc, .int .i64 ymi, .int .i64 yma] w3) := Lib.hid (PP2.out.step b3)
                       have KK3 : Hid (Kept w w.heap.size 47 #[.string cn, .string cs, .bool cab, .slice a1 n1 c1, .slice (some ⟨b, off, none⟩) n2 c2, .slice a3 n3 c3] w3) := Lib.hid (KK2.out.step b3)
                       obtain ⟨g3, _⟩ := bcell (b3.mono PP2.out.blk.lt)))
              go_ret2
              exact ⟨⟨_, rfl, fun _ => by first | (simp; done) | (simp; omega)⟩, KK3.out.low⟩
            have HD := Lib.hid hD
            by_cases t1 : ymi ≠ 0 ∧ ymi ≠ 1
            · obtain ⟨z1, hz1⟩ : ∃ z, bits .andNot .i64 ymi 1 = z := ⟨_, rfl⟩
              have hz0 : ¬ z1 = 0 := by rw [← hz1]; intro e; have := (bits_one ymi p1).1 e; omega
              have hz2 : (z1 != 0) = true := by simpa using hz0
              have hz := Hbad.out 44 (by simp only [kidE]; rw [if_neg m32, if_neg (by rw [hR, hR2]; simp), if_neg (by rw [hD]; simp), if_pos (.inl t1)]) (by omega)
              rw [hz]; clear hz Hbad Hgood
              go_wp2_with (first
                    | (go_at_call 18
                       with_reducible refine (RR.out _).mono ?_
                       rintro e w1 ⟨rfl, q1⟩
                       have PP1 : Hid (Kept wr wr.heap.size 62 #[.string yn, .string yc, .int .i64 ymi, .int .i64 yma] w1) := Lib.hid ((Kept.new wr _ _).step (q1.below _))
                       have KK1 : Hid (Kept w w.heap.size 47 #[.string cn, .string cs, .bool cab, .slice a1 n1 c1, .slice (some ⟨b, off, none⟩) n2 c2, .slice a3 n3 c3] w1) := Lib.hid ((hK.out.alloc _).step (q1.below _))
                       obtain ⟨g1, _⟩ := bcell (q1.below (wr.heap.size + 1)))
                    | (go_at_call 18
                       with_reducible refine (RC.out _).mono ?_
                       rintro e w2 ⟨rfl, q2⟩
                       have PP2 : Hid (Kept wr wr.heap.size 62 #[.string yn, .string yc, .int .i64 ymi, .int .i64 yma] w2) := Lib.hid (PP1.out.step (q2.below _))
                       have KK2 : Hid (Kept w w.heap.size 47 #[.string cn, .string cs, .bool cab, .slice a1 n1 c1, .slice (some ⟨b, off, none⟩) n2 c2, .slice a3 n3 c3] w2) := Lib.hid (KK1.out.step (q2.below _))
                       obtain ⟨g2, _⟩ := bcell (q2.below (wr.heap.size + 1)))
                    | (go_at_call 69
                       with_reducible refine (dup_KidDef w0 _ wr.heap.size yn k S2.out (HWr.out.trans (PP2.out.low.mono HWr.out.size)) (PP2.out.blk.cell (i := 0) rfl) (by rw [L2.out]; exact hk) _ HD.out).mono ?_
                       rintro e w3 ⟨rfl, b3⟩
                       have PP3 : Hid (Kept wr wr.heap.size 62 #[.string yn, .string yc, .int .i64 ymi, .int .i64 yma] w3) := Lib.hid (PP2.out.step b3)
                       have KK3 : Hid (Kept w w.heap.size 47 #[.string cn, .string cs, .bool cab, .slice a1 n1 c1, .slice (some ⟨b, off, none⟩) n2 c2, .slice a3 n3 c3] w3) := Lib.hid (KK2.out.step b3)
                       obtain ⟨g3, _⟩ := bcell (b3.mono PP2.out.blk.lt)))
              go_ret2
              exact ⟨⟨_, rfl, fun _ => by first | (simp; done) | (simp; omega)⟩, KK3.out.low⟩
            have hz1 : bits .andNot .i64 ymi 1 = 0 := (bits_one ymi p1).2 (by omega)
            by_cases t4 : yma ≠ 0 ∧ yma ≠ 1
            · obtain ⟨z2, hz2⟩ : ∃ z, bits .andNot .i64 yma 1 = z := ⟨_, rfl⟩
              have hz0 : ¬ z2 = 0 := by rw [← hz2]; intro e; have := (bits_one yma p2).1 e; omega
              have hz3 : (z2 != 0) = true := by simpa using hz0
              have hz := Hbad.out 44 (by simp only [kidE]; rw [if_neg m32, if_neg (by rw [hR, hR2]; simp), if_neg (by rw [hD]; simp), if_pos (.inr t4)]) (by omega)
              rw [hz]; clear hz Hbad Hgood
              go_wp2_with (first
                    | (go_at_call 18
                       with_reducible refine (RR.out _).mono ?_
                       rintro e w1 ⟨rfl, q1⟩
                       have PP1 : Hid (Kept wr wr.heap.size 62 #[.string yn, .string yc, .int .i64 ymi, .int .i64 yma] w1) := Lib.hid ((Kept.new wr _ _).step (q1.below _))
                       have KK1 : Hid (Kept w w.heap.size 47 #[.string cn, .string cs, .bool cab, .slice a1 n1 c1, .slice (some ⟨b, off, none⟩) n2 c2, .slice a3 n3 c3] w1) := Lib.hid ((hK.out.alloc _).step (q1.below _))
                       obtain ⟨g1, _⟩ := bcell (q1.below (wr.heap.size + 1)))
                    | (go_at_call 18
                       with_reducible refine (RC.out _).mono ?_
                       rintro e w2 ⟨rfl, q2⟩
                       have PP2 : Hid (Kept wr wr.heap.size 62 #[.string yn, .string yc, .int .i64 ymi, .int .i64 yma] w2) := Lib.hid (PP1.out.step (q2.below _))
                       have KK2 : Hid (Kept w w.heap.size 47 #[.string cn, .string cs, .bool cab, .slice a1 n1 c1, .slice (some ⟨b, off, none⟩) n2 c2, .slice a3 n3 c3] w2) := Lib.hid (KK1.out.step (q2.below _))
                       obtain ⟨g2, _⟩ := bcell (q2.below (wr.heap.size + 1)))
                    | (go_at_call 69
                       with_reducible refine (dup_KidDef w0 _ wr.heap.size yn k S2.out (HWr.out.trans (PP2.out.low.mono HWr.out.size)) (PP2.out.blk.cell (i := 0) rfl) (by rw [L2.out]; exact hk) _ HD.out).mono ?_
                       rintro e w3 ⟨rfl, b3⟩
                       have PP3 : Hid (Kept wr wr.heap.size 62 #[.string yn, .string yc, .int .i64 ymi, .int .i64 yma] w3) := Lib.hid (PP2.out.step b3)
                       have KK3 : Hid (Kept w w.heap.size 47 #[.string cn, .string cs, .bool cab, .slice a1 n1 c1, .slice (some ⟨b, off, none⟩) n2 c2, .slice a3 n3 c3] w3) := Lib.hid (KK2.out.step b3)
                       obtain ⟨g3, _⟩ := bcell (b3.mono PP2.out.blk.lt)))
              go_ret2
              exact ⟨⟨_, rfl, fun _ => by first | (simp; done) | (simp; omega)⟩, KK3.out.low⟩
            have hz2 : bits .andNot .i64 yma 1 = 0 := (bits_one yma p2).2 (by omega)
            have hz := Hgood.out (by simp only [kidE]; rw [if_neg m32, if_neg (by rw [hR, hR2]; simp), if_neg (by rw [hD]; simp), if_neg (by omega)])
            have HZ := Lib.hid hz
            clear hz Hbad Hgood
            go_wp2_with (first
                  | (go_at_call 18
                     with_reducible refine (RR.out _).mono ?_
                     rintro e w1 ⟨rfl, q1⟩
                     have PP1 : Hid (Kept wr wr.heap.size 62 #[.string yn, .string yc, .int .i64 ymi, .int .i64 yma] w1) := Lib.hid ((Kept.new wr _ _).step (q1.below _))
                     have KK1 : Hid (Kept w w.heap.size 47 #[.string cn, .string cs, .bool cab, .slice a1 n1 c1, .slice (some ⟨b, off, none⟩) n2 c2, .slice a3 n3 c3] w1) := Lib.hid ((hK.out.alloc _).step (q1.below _))
                     obtain ⟨g1, _⟩ := bcell (q1.below (wr.heap.size + 1)))
                  | (go_at_call 18
                     with_reducible refine (RC.out _).mono ?_
                     rintro e w2 ⟨rfl, q2⟩
                     have PP2 : Hid (Kept wr wr.heap.size 62 #[.string yn, .string yc, .int .i64 ymi, .int .i64 yma] w2) := Lib.hid (PP1.out.step (q2.below _))
                     have KK2 : Hid (Kept w w.heap.size 47 #[.string cn, .string cs, .bool cab, .slice a1 n1 c1, .slice (some ⟨b, off, none⟩) n2 c2, .slice a3 n3 c3] w2) := Lib.hid (KK1.out.step (q2.below _))
                     obtain ⟨g2, _⟩ := bcell (q2.below (wr.heap.size + 1)))
                  | (go_at_call 69
                     with_reducible refine (dup_KidDef w0 _ wr.heap.size yn k S2.out (HWr.out.trans (PP2.out.low.mono HWr.out.size)) (PP2.out.blk.cell (i := 0) rfl) (by rw [L2.out]; exact hk) _ HD.out).mono ?_
                     rintro e w3 ⟨rfl, b3⟩
                     have PP3 : Hid (Kept wr wr.heap.size 62 #[.string yn, .string yc, .int .i64 ymi, .int .i64 yma] w3) := Lib.hid (PP2.out.step b3)
                     have KK3 : Hid (Kept w w.heap.size 47 #[.string cn, .string cs, .bool cab, .slice a1 n1 c1, .slice (some ⟨b, off, none⟩) n2 c2, .slice a3 n3 c3] w3) := Lib.hid (KK2.out.step b3)
                     obtain ⟨g3, _⟩ := bcell (b3.mono PP2.out.blk.lt)))
            go_roundw
            case rel => exact ⟨k + 1, by omega, by omega, by go_num, by go_num, KK3, HZ⟩
            case measure => simp [intOf]; omega
          · obtain rfl : n2 = k := by omega
            clear hlt
            have F2 := Lib.hid (show firstE (kidE ck) 0 ck = none by rw [hf.out]; exact firstE_end (by rw [L2.out]; exact Nat.le_refl _))
            have hKf := hK
            obtain ⟨wo, hwo⟩ : ∃ wo, wo = wr := ⟨wr, rfl⟩
            subst hwo
            have kk : wo.cell? ⟨w.heap.size, 5, none⟩ = some (.slice a3 n3 c3) := hK.out.blk.cell rfl
            clear hf hK hk
            go_wp2_with fail
            go_loopw [6, 11, 12, 127, 134, 138, 150] (fun p6 _ _ j _ _ _ wr => ∃ k : Nat, k ≤ n3 ∧ k ≤ 32 ∧ p6 = .int .i64 ((n1 + n2 + k : Nat) : Int) ∧ j = .int .i64 (k : Int) ∧ Hid (Kept w w.heap.size 47 #[.string cn, .string cs, .bool cab, .slice a1 n1 c1, .slice a2 n2 c2, .slice a3 n3 c3] wr) ∧ Hid (firstE (refE cr) 0 cr = firstE (refE cr) k (cr.drop k))) (fun p6 _ _ j _ _ _ _ => n3 - (intOf j).toNat)
            case atStart => exact ⟨0, Nat.zero_le _, by omega, rfl, rfl, hKf, Lib.hid (by rw [List.drop_zero])⟩
            case round =>
              obtain ⟨k, hk, hk32, rfl, rfl, hK, hf⟩ := hrel
              by_cases hlt : k < n3
              · obtain ⟨⟨yn, yc, yb⟩, hd⟩ : ∃ y : RefDef, cr[k]? = some y := get_some L3.out hlt
                have hWr := HW.out.trans (hK.out.low.mono HW.out.size)
                obtain ⟨b, off, x, rfl, hbB, hxl, ⟨rfl, p1, p2⟩, hx⟩ := (S3.out.below hWr).at_ hd
                simp only [RefDef.cells] at hx p1 p2
                have h0 := hx 0 _ rfl
                have h1 := hx 1 _ rfl
                have h2 := hx 2 _ rfl
                simp only [Nat.add_zero] at h0
                have kk : wr.cell? ⟨w.heap.size, 5, none⟩ = some (.slice (some ⟨b, off, none⟩) n3 c3) := hK.out.blk.cell rfl
                have l0 : w.heap.size < wr.heap.size := hK.out.blk.lt
                have l1 : w.heap.size < wr.heap.size + 1 := by omega
                have hcap : k ≤ c3 := by have := S3.out.caps; omega
                have hst := firstE_step (f := refE cr) hd
                rw [← hf.out] at hst
                have Hst := Lib.hid hst
                have Hd := Lib.hid hd
                have HWr := Lib.hid hWr
                have Hbad : Hid (∀ e, refE cr k ⟨yn, yc, yb⟩ = e → e ≠ 0 → conceptA ahead ⟨cn, cs, cab, cp, ck, cr⟩ = (1 + (n1 + n2 + k), e)) := by
                  intro e he h0
                  rw [HC.out]
                  have hs : firstE (refE cr) 0 cr = some (k, e) := by rw [Hst.out, if_pos (by rw [he]; exact h0), he]
                  exact (partsE_r F1.out F2.out hs).trans (by rw [L1.out, L2.out]; simp only [Nat.add_assoc])
                have Hgood : Hid (refE cr k ⟨yn, yc, yb⟩ = 0 → firstE (refE cr) 0 cr = firstE (refE cr) (k + 1) (cr.drop (k + 1))) := by
                  intro he
                  rw [Hst.out, if_neg (by rw [he]; simp)]
                clear hd hx hxl hWr hf hst
                by_cases h32 : k = 32
                · subst h32
                  have hz := Hbad.out 4 (by simp [refE]) (by omega)
                  rw [hz]; clear hz Hbad Hgood
                  go_wp2_with fail
                  go_ret2
                  exact ⟨⟨_, rfl, fun _ => by first | (simp; done) | (simp; omega)⟩, (hK.out.alloc _).low⟩
                have hkl : k < 32 := by omega
                have e32 : ((k : Int) == 32) = false := by simp; omega
                have n32 : ¬ (k : Int) = 32 := by omega
                have m32 : ¬ 32 ≤ k := by omega
                rcases hR : okName yn with _ | _
                · have RR := Lib.hid (fun W => right_of yn p1 false hR W)
                  have hz := Hbad.out 2 (by simp only [refE]; rw [if_neg m32, if_pos (.inl hR)]) (by omega)
                  rw [hz]; clear hz Hbad Hgood
                  go_wp2_with (first
                        | (go_at_call 18
                           with_reducible refine (RR.out _).mono ?_
                           rintro e w1 ⟨rfl, q1⟩
                           have PP1 : Hid (Kept wr wr.heap.size 107 #[.string yn, .string yc, .bool yb] w1) := Lib.hid ((Kept.new wr _ _).step (q1.below _))
                           have KK1 : Hid (Kept w w.heap.size 47 #[.string cn, .string cs, .bool cab, .slice a1 n1 c1, .slice a2 n2 c2, .slice (some ⟨b, off, none⟩) n3 c3] w1) := Lib.hid ((hK.out.alloc _).step (q1.below _))
                           obtain ⟨g1, _⟩ := bcell (q1.below (wr.heap.size + 1))))
                  go_ret2
                  exact ⟨⟨_, rfl, fun _ => by first | (simp; done) | (simp; omega)⟩, KK1.out.low⟩
                have RR := Lib.hid (fun W => right_of yn p1 true hR W)
                rcases hR2 : okName yc with _ | _
                · have RC := Lib.hid (fun W => right_of yc p2 false hR2 W)
                  have hz := Hbad.out 2 (by simp only [refE]; rw [if_neg m32, if_pos (.inr hR2)]) (by omega)
                  rw [hz]; clear hz Hbad Hgood
                  go_wp2_with (first
                        | (go_at_call 18
                           with_reducible refine (RR.out _).mono ?_
                           rintro e w1 ⟨rfl, q1⟩
                           have PP1 : Hid (Kept wr wr.heap.size 107 #[.string yn, .string yc, .bool yb] w1) := Lib.hid ((Kept.new wr _ _).step (q1.below _))
                           have KK1 : Hid (Kept w w.heap.size 47 #[.string cn, .string cs, .bool cab, .slice a1 n1 c1, .slice a2 n2 c2, .slice (some ⟨b, off, none⟩) n3 c3] w1) := Lib.hid ((hK.out.alloc _).step (q1.below _))
                           obtain ⟨g1, _⟩ := bcell (q1.below (wr.heap.size + 1)))
                        | (go_at_call 18
                           with_reducible refine (RC.out _).mono ?_
                           rintro e w2 ⟨rfl, q2⟩
                           have PP2 : Hid (Kept wr wr.heap.size 107 #[.string yn, .string yc, .bool yb] w2) := Lib.hid (PP1.out.step (q2.below _))
                           have KK2 : Hid (Kept w w.heap.size 47 #[.string cn, .string cs, .bool cab, .slice a1 n1 c1, .slice a2 n2 c2, .slice (some ⟨b, off, none⟩) n3 c3] w2) := Lib.hid (KK1.out.step (q2.below _))
                           obtain ⟨g2, _⟩ := bcell (q2.below (wr.heap.size + 1))))
                  go_ret2
                  exact ⟨⟨_, rfl, fun _ => by first | (simp; done) | (simp; omega)⟩, KK2.out.low⟩
                have RC := Lib.hid (fun W => right_of yc p2 true hR2 W)
                rcases hD : (cr.take k).any (fun x => decide (x.role = yn)) with _ | _
                rotate_left
                · have HD := Lib.hid hD
                  have hz := Hbad.out 40 (by simp only [refE]; rw [if_neg m32, if_neg (by rw [hR, hR2]; simp), if_pos hD]) (by omega)
                  rw [hz]; clear hz Hbad Hgood
                  go_wp2_with (first
                        | (go_at_call 18
                           with_reducible refine (RR.out _).mono ?_
                           rintro e w1 ⟨rfl, q1⟩
                           have PP1 : Hid (Kept wr wr.heap.size 107 #[.string yn, .string yc, .bool yb] w1) := Lib.hid ((Kept.new wr _ _).step (q1.below _))
                           have KK1 : Hid (Kept w w.heap.size 47 #[.string cn, .string cs, .bool cab, .slice a1 n1 c1, .slice a2 n2 c2, .slice (some ⟨b, off, none⟩) n3 c3] w1) := Lib.hid ((hK.out.alloc _).step (q1.below _))
                           obtain ⟨g1, _⟩ := bcell (q1.below (wr.heap.size + 1)))
                        | (go_at_call 18
                           with_reducible refine (RC.out _).mono ?_
                           rintro e w2 ⟨rfl, q2⟩
                           have PP2 : Hid (Kept wr wr.heap.size 107 #[.string yn, .string yc, .bool yb] w2) := Lib.hid (PP1.out.step (q2.below _))
                           have KK2 : Hid (Kept w w.heap.size 47 #[.string cn, .string cs, .bool cab, .slice a1 n1 c1, .slice a2 n2 c2, .slice (some ⟨b, off, none⟩) n3 c3] w2) := Lib.hid (KK1.out.step (q2.below _))
                           obtain ⟨g2, _⟩ := bcell (q2.below (wr.heap.size + 1)))
                        | (go_at_call 71
                           with_reducible refine (dup_RefDef w0 _ wr.heap.size yn k S3.out (HWr.out.trans (PP2.out.low.mono HWr.out.size)) (PP2.out.blk.cell (i := 0) rfl) (by rw [L3.out]; exact hk) _ HD.out).mono ?_
                           rintro e w3 ⟨rfl, b3⟩
                           have PP3 : Hid (Kept wr wr.heap.size 107 #[.string yn, .string yc, .bool yb] w3) := Lib.hid (PP2.out.step b3)
                           have KK3 : Hid (Kept w w.heap.size 47 #[.string cn, .string cs, .bool cab, .slice a1 n1 c1, .slice a2 n2 c2, .slice (some ⟨b, off, none⟩) n3 c3] w3) := Lib.hid (KK2.out.step b3)
                           obtain ⟨g3, _⟩ := bcell (b3.mono PP2.out.blk.lt)))
                  go_ret2
                  exact ⟨⟨_, rfl, fun _ => by first | (simp; done) | (simp; omega)⟩, KK3.out.low⟩
                have HD := Lib.hid hD
                have hz := Hgood.out (by simp only [refE]; rw [if_neg m32, if_neg (by rw [hR, hR2]; simp), if_neg (by rw [hD]; simp)])
                have HZ := Lib.hid hz
                clear hz Hbad Hgood
                go_wp2_with (first
                      | (go_at_call 18
                         with_reducible refine (RR.out _).mono ?_
                         rintro e w1 ⟨rfl, q1⟩
                         have PP1 : Hid (Kept wr wr.heap.size 107 #[.string yn, .string yc, .bool yb] w1) := Lib.hid ((Kept.new wr _ _).step (q1.below _))
                         have KK1 : Hid (Kept w w.heap.size 47 #[.string cn, .string cs, .bool cab, .slice a1 n1 c1, .slice a2 n2 c2, .slice (some ⟨b, off, none⟩) n3 c3] w1) := Lib.hid ((hK.out.alloc _).step (q1.below _))
                         obtain ⟨g1, _⟩ := bcell (q1.below (wr.heap.size + 1)))
                      | (go_at_call 18
                         with_reducible refine (RC.out _).mono ?_
                         rintro e w2 ⟨rfl, q2⟩
                         have PP2 : Hid (Kept wr wr.heap.size 107 #[.string yn, .string yc, .bool yb] w2) := Lib.hid (PP1.out.step (q2.below _))
                         have KK2 : Hid (Kept w w.heap.size 47 #[.string cn, .string cs, .bool cab, .slice a1 n1 c1, .slice a2 n2 c2, .slice (some ⟨b, off, none⟩) n3 c3] w2) := Lib.hid (KK1.out.step (q2.below _))
                         obtain ⟨g2, _⟩ := bcell (q2.below (wr.heap.size + 1)))
                      | (go_at_call 71
                         with_reducible refine (dup_RefDef w0 _ wr.heap.size yn k S3.out (HWr.out.trans (PP2.out.low.mono HWr.out.size)) (PP2.out.blk.cell (i := 0) rfl) (by rw [L3.out]; exact hk) _ HD.out).mono ?_
                         rintro e w3 ⟨rfl, b3⟩
                         have PP3 : Hid (Kept wr wr.heap.size 107 #[.string yn, .string yc, .bool yb] w3) := Lib.hid (PP2.out.step b3)
                         have KK3 : Hid (Kept w w.heap.size 47 #[.string cn, .string cs, .bool cab, .slice a1 n1 c1, .slice a2 n2 c2, .slice (some ⟨b, off, none⟩) n3 c3] w3) := Lib.hid (KK2.out.step b3)
                         obtain ⟨g3, _⟩ := bcell (b3.mono PP2.out.blk.lt)))
                go_roundw
                case rel => exact ⟨k + 1, by omega, by omega, by go_num, by go_num, KK3, HZ⟩
                case measure => simp [intOf]; omega
              · obtain rfl : n3 = k := by omega
                clear hlt
                have F3 := Lib.hid (show firstE (refE cr) 0 cr = none by rw [hf.out]; exact firstE_end (by rw [L3.out]; exact Nat.le_refl _))
                have hKf := hK
                obtain ⟨wo, hwo⟩ : ∃ wo, wo = wr := ⟨wr, rfl⟩
                subst hwo
                clear hf hK hk
                have hz : conceptA ahead ⟨cn, cs, cab, cp, ck, cr⟩ = (0, 0) := by rw [HC.out]; exact partsE_0 F1.out F2.out F3.out
                have HZ := Lib.hid hz
                clear hz
                go_wp2_with fail
                go_ret2
                exact ⟨⟨((n1 + n2 + n3 : Nat) : Int), by rw [HZ.out]; rfl, fun h => absurd (by rw [HZ.out]) h⟩, hKf.out.low⟩

theorem concept_any {ahead : List Concept} {c : Concept} {v : Value} {x : List Value} (w w0 : World) (hs : SlR w0 w0.heap.size 6 (Concept.Is w0 w0.heap.size) v ahead) (hx : Concept.Is w0 w0.heap.size x c) (hw : Below w0.heap.size w0 w) :
    Calls Tryz.prog 25 #[v, .agg x.toArray] w (ConPost (conceptA ahead c) w) := by
  rcases hA : okName c.name with _ | _
  · exact concept_bad w w0 hs hx hw (.inl hA)
  rcases hB : ahead.any (fun x => decide (x.name = c.name)) with _ | _
  · by_cases hC : c.super.size ≠ 0 ∧ okName c.super = false
    · exact concept_bad w w0 hs hx hw (.inr ⟨hA, .inr ⟨hB, .inl hC⟩⟩)
    · by_cases hD : c.super = c.name
      · exact concept_bad w w0 hs hx hw (.inr ⟨hA, .inr ⟨hB, .inr ⟨hC, hD⟩⟩⟩)
      · exact concept_ok w w0 hs hx hw hA hB hC hD
  · exact concept_bad w w0 hs hx hw (.inr ⟨hA, .inl hB⟩)
end Go.Proofs.YtdhljfblkidohaaGreat
