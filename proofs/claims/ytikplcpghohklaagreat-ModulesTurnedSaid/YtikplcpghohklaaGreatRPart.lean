/- The reference's parts of a concept, one by one; its use. -/
import Derived.Test.YtikplcpghohklaaGreatDup
import Derived.Test.YtikplcpghohklaaGreatConA
import Derived.Deep.QuietTactic
import Derived.BigQuiet
namespace Go.Proofs.YtikplcpghohklaaGreat
set_option linter.unusedSimpArgs false
set_option linter.unusedVariables false
open Go.RowKit

theorem SlR.at2 {α : Type} {w : World} {B size : Nat} {R : List Value → α → Prop} {l : List α} {k b off n c : Nat} {y : α} (h : SlR w B size R (.slice (some ⟨b, off, none⟩) n c) l) (hy : l[k]? = some y) :
    b < B ∧ ∃ x : List Value, x.length = size ∧ R x y ∧ ∀ (j : Nat) (u : Value), x[j]? = some u → w.cell? ⟨b, off + k * size + j, none⟩ = some u := by
  obtain ⟨b', off', x, ha, hb, h1, h2, h3⟩ := h.at_ hy
  injection ha with ha
  injection ha with e1 e2 e3
  subst e1 e2
  exact ⟨hb, x, h1, h2, h3⟩
/-- what was there stays, and two blocks that were written since -/
structure Kept2 (w : World) (t1 : TypeId) (cs1 : Array Value) (t2 : TypeId) (cs2 : Array Value) (W : World) : Prop where
  low : Below w.heap.size w W
  b1 : Blk W w.heap.size t1 cs1
  b2 : Blk W (w.heap.size + 1) t2 cs2
theorem Kept2.new (w : World) (t1 : TypeId) (cs1 : Array Value) (t2 : TypeId) (cs2 : Array Value) : Kept2 w t1 cs1 t2 cs2 ((w.alloc (.cells cs1 t1)).alloc (.cells cs2 t2)) :=
  ⟨((Below.refl _ _).alloc (Nat.le_refl _) _).alloc (below2 (Nat.le_refl _)) _, (Blk.new _ _ _).alloc _, Blk.new_ (by simp) _ _⟩
theorem Kept2.step {w : World} {t1 : TypeId} {cs1 : Array Value} {t2 : TypeId} {cs2 : Array Value} {W W' : World} (h : Kept2 w t1 cs1 t2 cs2 W) (b : Below W.heap.size W W') : Kept2 w t1 cs1 t2 cs2 W' :=
  ⟨h.low.trans (b.mono h.low.size), h.b1.below b h.b1.lt, h.b2.below b h.b2.lt⟩
theorem any_no {α : Type} {l : List α} {i : Nat} {p : α → Bool} (hi : i ≤ l.length) (h : ∀ (a : Nat) (d : α), a < i → l[a]? = some d → p d = false) : (l.take i).any p = false := by
  rw [List.any_eq_false]
  intro y hy
  obtain ⟨a, ha⟩ := List.mem_iff_getElem?.1 hy
  have hai : a < i := by have := (List.getElem?_eq_some_iff.1 ha).1; rw [List.length_take] at this; omega
  rw [List.getElem?_take_of_lt hai] at ha
  rw [h a y hai ha]
  simp
theorem any_yes {α : Type} {l : List α} {i a : Nat} {d : α} {p : α → Bool} (ha : a < i) (hd : l[a]? = some d) (hp : p d = true) : (l.take i).any p = true := by
  rw [List.any_eq_true]
  exact ⟨d, List.mem_iff_getElem?.2 ⟨a, by rw [List.getElem?_take_of_lt ha]; exact hd⟩, hp⟩

set_option maxRecDepth 100000 in
set_option maxHeartbeats 4000000 in
theorem r_prop {c : Concept} {x : List Value} (w w0 : World) (k : Nat) (y : PropDef) (hx : Concept.Is w0 w0.heap.size x c) (hw : Below w0.heap.size w0 w) (hd : c.props[k]? = some y) :
    Calls Tryz.prog 181 #[.agg x.toArray, .int .i64 (k : Int)] w fun e w' => e = .returned (.int .i64 (propE c.props k y : Int)) ∧ Below w.heap.size w w' := by
  obtain ⟨v1, v2, v3, rfl, s1, s2, s3, f1, f2, f3, o1, o2⟩ := hx
  obtain ⟨a1, n1, c1, rfl⟩ := s1.form'
  obtain ⟨a2, n2, c2, rfl⟩ := s2.form'
  obtain ⟨a3, n3, c3, rfl⟩ := s3.form'
  have HW := Lib.hid hw
  have S := Lib.hid s1
  have hk : k < n1 := by have := s1.len; have := (List.getElem?_eq_some_iff.1 hd).1; omega
  have hcap := s1.caps
  have hnl : c.props.length = n1 := s1.len.symm
  have HN := Lib.hid hnl
  obtain ⟨b, off, xx, rfl, hbB, hxl, hR, hxx⟩ := (s1.below hw).at_ hd
  obtain ⟨yn, yt⟩ := y
  obtain ⟨rfl, p1, p2⟩ := hR
  simp only [PropDef.cells] at hxx p1 p2
  have h0 := hxx 0 _ rfl
  have h1 := hxx 1 _ rfl
  simp only [Nat.add_zero] at h0
  have hn63 : n1 ≤ 9223372036854775807 := by unfold maxLen at hcap; omega
  have lb : b < w.heap.size := by have := hw.size; omega
  have HD := Lib.hid hd
  clear s1 s2 s3 hw hd hxx hxl hnl hcap f1 f2 f3
  have hE : propE c.props k ⟨yn, yt⟩ = propE c.props k ⟨yn, yt⟩ := rfl
  by_cases h32 : 32 ≤ k
  · have hv : propE c.props k ⟨yn, yt⟩ = 4 := by simp only [propE]; rw [if_pos h32]
    rw [hv]; clear hv hE
    have d32 : decide (32 ≤ (k : Int)) = true := by simp; omega
    go_enter Tryz.func181, Tryz.ntmps181
    go_wp2_with fail
    go_ret
    exact ⟨rfl, (Kept.new w _ _).low⟩
  have d32 : decide (32 ≤ (k : Int)) = false := by simp; omega
  clear hE
  rcases hR : okName yn with _ | _
  · have hv : propE c.props k ⟨yn, yt⟩ = 2 := by simp only [propE]; rw [if_neg h32, if_pos hR]
    rw [hv]; clear hv
    have RR := Lib.hid (fun W => rright_of yn p2 false hR W)
    clear hR
    go_enter Tryz.func181, Tryz.ntmps181
    go_wp2_with (first | (go_at_call 122; with_reducible refine (RR.out _).mono ?_; rintro e w1 ⟨rfl, q1⟩; have K1 : Hid (Kept w w.heap.size 58 #[.string c.name, .string c.super, .bool c.abs, .slice (some ⟨b, off, none⟩) n1 c1, .slice a2 n2 c2, .slice a3 n3 c3] w1) := Lib.hid ((Kept.new w _ _).step (q1.below _)); obtain ⟨g1, _⟩ := bcell (q1.below (w.heap.size + 1))))
    go_ret
    exact ⟨rfl, K1.out.low⟩
  have RR := Lib.hid (fun W => rright_of yn p2 true hR W)
  have HV : Hid (propE c.props k ⟨yn, yt⟩ = if (c.props.take k).any (fun x => decide (x.name = yn)) then 40 else if yt < 1 ∨ 4 < yt then 41 else 0) := by show _ = _; simp only [propE]; rw [if_neg h32, if_neg (by rw [hR]; simp)]
  clear hR
  go_enter Tryz.func181, Tryz.ntmps181
  go_wp2_with (first | (go_at_call 122; with_reducible refine (RR.out _).mono ?_; rintro e w1 ⟨rfl, q1⟩; have K1 : Hid (Kept w w.heap.size 58 #[.string c.name, .string c.super, .bool c.abs, .slice (some ⟨b, off, none⟩) n1 c1, .slice a2 n2 c2, .slice a3 n3 c3] w1) := Lib.hid ((Kept.new w _ _).step (q1.below _)); obtain ⟨g1, _⟩ := bcell (q1.below (w.heap.size + 1))))
  go_loopw [5] (fun j wr => ∃ i : Nat, i ≤ k ∧ j = .int .i64 (i : Int) ∧ Hid (Kept w w.heap.size 58 #[.string c.name, .string c.super, .bool c.abs, .slice (some ⟨b, off, none⟩) n1 c1, .slice a2 n2 c2, .slice a3 n3 c3] wr) ∧ Hid (∀ (a : Nat) (d : PropDef), a < i → c.props[a]? = some d → (fun x : PropDef => decide (x.name = yn)) d = false)) (fun j _ => k - (intOf j).toNat)
  case atStart => exact ⟨0, Nat.zero_le _, rfl, K1, fun a d ha => by omega⟩
  case round =>
    obtain ⟨i, hi, rfl, hK, hf⟩ := hrel
    have hWr := HW.out.trans (hK.out.low.mono HW.out.size)
    have kk : wr.cell? ⟨w.heap.size, 3, none⟩ = some (.slice (some ⟨b, off, none⟩) n1 c1) := hK.out.blk.cell rfl
    have lw : w.heap.size < wr.heap.size := hK.out.blk.lt
    have lbr : b < wr.heap.size := by omega

    obtain ⟨_, xy, hyl, ⟨rfl, _⟩, hxy⟩ := (S.out.below hWr).at2 HD.out
    simp only [PropDef.cells] at hxy
    have k0 := hxy 0 _ rfl
    have k1 := hxy 1 _ rfl
    simp only [Nat.add_zero] at k0
    clear hxy hyl
    by_cases hlt : i < k
    · obtain ⟨z, he⟩ := get_some HN.out (show i < n1 by omega)
      obtain ⟨_, xz, hzl, ⟨rfl, _⟩, hxz⟩ := (S.out.below hWr).at2 he
      simp only [PropDef.cells] at hxz
      have z0 := hxz 0 _ rfl
      simp only [Nat.add_zero] at z0
      have He := Lib.hid he
      have hin : i < n1 := by omega
      obtain ⟨zn, hzn⟩ : ∃ t, z.name = t := ⟨_, rfl⟩
      have Hzn := Lib.hid hzn
      rw [hzn] at z0
      have HK := hK
      clear he hxz hzl hWr hK hzn
      by_cases hyz : zn = yn
      · subst hyz
        have hv : propE c.props k ⟨zn, yt⟩ = 40 := by rw [HV.out, if_pos (any_yes hlt He.out (by simp [Hzn.out]))]
        have HV2 := Lib.hid hv
        clear hv HV
        go_wp2_with fail
        go_quiet (fail)
        go_wp2_with fail
        go_ret
        exact ⟨by rw [HV2.out]; rfl, below_drewN HK.out.low _⟩
      · have hne : (zn.toList == yn.toList) = false := by simpa [toList_inj] using hyz
        have HZ := Lib.hid hyz
        clear hyz
        go_wp2_with fail
        go_quiet (fail)
        go_wp2_with fail
        go_roundw
        case rel => exact ⟨i + 1, by omega, by go_num, Lib.hid (HK.out.step (below_drewN (Below.refl _ _) _)), so_far1 He.out (by simp [Hzn.out, HZ.out]) hf.out⟩
        case measure => simp [intOf]; omega
    · obtain rfl : k = i := by omega
      have hv : propE c.props k ⟨yn, yt⟩ = if yt < 1 ∨ 4 < yt then 41 else 0 := by rw [HV.out, if_neg (by rw [any_no (by rw [HN.out]; omega) hf.out]; simp)]
      have HV2 := Lib.hid hv
      have HK := hK
      clear hlt hv HV hWr hK hf
      by_cases t1 : yt < 1
      · have t1' : decide (yt < 1) = true := by simpa using t1
        have hz : propE c.props k ⟨yn, yt⟩ = 41 := by rw [HV2.out, if_pos (.inl t1)]
        have HZ := Lib.hid hz
        clear hz HV2
        go_wp2_with fail
        go_ret
        exact ⟨by rw [HZ.out]; rfl, HK.out.low⟩
      have t1' : decide (yt < 1) = false := by simpa using t1
      by_cases t4 : 4 < yt
      · have t4' : decide (4 < yt) = true := by simpa using t4
        have hz : propE c.props k ⟨yn, yt⟩ = 41 := by rw [HV2.out, if_pos (.inr t4)]
        have HZ := Lib.hid hz
        clear hz HV2
        go_wp2_with fail
        go_ret
        exact ⟨by rw [HZ.out]; rfl, HK.out.low⟩
      have t4' : decide (4 < yt) = false := by simpa using t4
      have hz : propE c.props k ⟨yn, yt⟩ = 0 := by rw [HV2.out, if_neg (by omega)]
      have HZ := Lib.hid hz
      clear hz HV2
      go_wp2_with fail
      go_ret
      exact ⟨by rw [HZ.out]; rfl, HK.out.low⟩

set_option maxRecDepth 100000 in
set_option maxHeartbeats 4000000 in
theorem r_kid {c : Concept} {x : List Value} (w w0 : World) (k : Nat) (y : KidDef) (hx : Concept.Is w0 w0.heap.size x c) (hw : Below w0.heap.size w0 w) (hd : c.kids[k]? = some y) :
    Calls Tryz.prog 182 #[.agg x.toArray, .int .i64 (k : Int)] w fun e w' => e = .returned (.int .i64 (kidE c.kids k y : Int)) ∧ Below w.heap.size w w' := by
  obtain ⟨v1, v2, v3, rfl, s1, s2, s3, f1, f2, f3, o1, o2⟩ := hx
  obtain ⟨a1, n1, c1, rfl⟩ := s1.form'
  obtain ⟨a2, n2, c2, rfl⟩ := s2.form'
  obtain ⟨a3, n3, c3, rfl⟩ := s3.form'
  have HW := Lib.hid hw
  have S := Lib.hid s2
  have hk : k < n2 := by have := s2.len; have := (List.getElem?_eq_some_iff.1 hd).1; omega
  have hcap := s2.caps
  have hnl : c.kids.length = n2 := s2.len.symm
  have HN := Lib.hid hnl
  obtain ⟨b, off, xx, rfl, hbB, hxl, hR, hxx⟩ := (s2.below hw).at_ hd
  obtain ⟨yn, yc, ymi, yma⟩ := y
  obtain ⟨rfl, p1, p2, p3, p4⟩ := hR
  simp only [KidDef.cells] at hxx p1 p2 p3 p4
  have h0 := hxx 0 _ rfl
  have h1 := hxx 1 _ rfl
  have h2 := hxx 2 _ rfl
  have h3 := hxx 3 _ rfl
  simp only [Nat.add_zero] at h0
  have hn63 : n2 ≤ 9223372036854775807 := by unfold maxLen at hcap; omega
  have lb : b < w.heap.size := by have := hw.size; omega
  have HD := Lib.hid hd
  clear s1 s2 s3 hw hd hxx hxl hnl hcap f1 f2 f3
  have hE : kidE c.kids k ⟨yn, yc, ymi, yma⟩ = kidE c.kids k ⟨yn, yc, ymi, yma⟩ := rfl
  by_cases h32 : 32 ≤ k
  · have hv : kidE c.kids k ⟨yn, yc, ymi, yma⟩ = 4 := by simp only [kidE]; rw [if_pos h32]
    rw [hv]; clear hv hE
    have d32 : decide (32 ≤ (k : Int)) = true := by simp; omega
    go_enter Tryz.func182, Tryz.ntmps182
    go_wp2_with fail
    go_ret
    exact ⟨rfl, (Kept2.new w _ _ _ _).low⟩
  have d32 : decide (32 ≤ (k : Int)) = false := by simp; omega
  clear hE
  rcases hR : okName yn with _ | _
  · have hv : kidE c.kids k ⟨yn, yc, ymi, yma⟩ = 2 := by simp only [kidE]; rw [if_neg h32, if_pos (.inl hR)]
    rw [hv]; clear hv
    have RR := Lib.hid (fun W => rright_of yn p3 false hR W)
    clear hR
    go_enter Tryz.func182, Tryz.ntmps182
    go_wp2_with (first | (go_at_call 122; with_reducible refine (RR.out _).mono ?_; rintro e w1 ⟨rfl, q1⟩; have K1 : Hid (Kept2 w 58 #[.string c.name, .string c.super, .bool c.abs, .slice a1 n1 c1, .slice (some ⟨b, off, none⟩) n2 c2, .slice a3 n3 c3] 121 #[.string yn, .string yc, .int .i64 ymi, .int .i64 yma] w1) := Lib.hid ((Kept2.new w _ _ _ _).step (q1.below _)); obtain ⟨g1, _⟩ := bcell (q1.below (w.heap.size + 2))))
    go_ret
    exact ⟨rfl, K1.out.low⟩
  have RR := Lib.hid (fun W => rright_of yn p3 true hR W)
  rcases hR2 : okName yc with _ | _
  · have hv : kidE c.kids k ⟨yn, yc, ymi, yma⟩ = 2 := by simp only [kidE]; rw [if_neg h32, if_pos (.inr hR2)]
    rw [hv]; clear hv
    have RC := Lib.hid (fun W => rright_of yc p4 false hR2 W)
    clear hR hR2
    go_enter Tryz.func182, Tryz.ntmps182
    go_wp2_with (first | (go_at_call 122; with_reducible refine (RR.out _).mono ?_; rintro e w1 ⟨rfl, q1⟩; have K1 : Hid (Kept2 w 58 #[.string c.name, .string c.super, .bool c.abs, .slice a1 n1 c1, .slice (some ⟨b, off, none⟩) n2 c2, .slice a3 n3 c3] 121 #[.string yn, .string yc, .int .i64 ymi, .int .i64 yma] w1) := Lib.hid ((Kept2.new w _ _ _ _).step (q1.below _)); obtain ⟨g1, _⟩ := bcell (q1.below (w.heap.size + 2))) | (go_at_call 122; with_reducible refine (RC.out _).mono ?_; rintro e w2 ⟨rfl, q2⟩; have K2 : Hid (Kept2 w 58 #[.string c.name, .string c.super, .bool c.abs, .slice a1 n1 c1, .slice (some ⟨b, off, none⟩) n2 c2, .slice a3 n3 c3] 121 #[.string yn, .string yc, .int .i64 ymi, .int .i64 yma] w2) := Lib.hid (K1.out.step (q2.below _)); obtain ⟨g2, _⟩ := bcell (q2.below (w.heap.size + 2))))
    go_ret
    exact ⟨rfl, K2.out.low⟩
  have RC := Lib.hid (fun W => rright_of yc p4 true hR2 W)
  have HV : Hid (kidE c.kids k ⟨yn, yc, ymi, yma⟩ = if (c.kids.take k).any (fun x => decide (x.role = yn)) then 40 else if (ymi ≠ 0 ∧ ymi ≠ 1) ∨ (yma ≠ 0 ∧ yma ≠ 1) then 44 else 0) := by show _ = _; simp only [kidE]; rw [if_neg h32, if_neg (by rw [hR, hR2]; simp)]
  clear hR hR2
  go_enter Tryz.func182, Tryz.ntmps182
  go_wp2_with (first | (go_at_call 122; with_reducible refine (RR.out _).mono ?_; rintro e w1 ⟨rfl, q1⟩; have K1 : Hid (Kept2 w 58 #[.string c.name, .string c.super, .bool c.abs, .slice a1 n1 c1, .slice (some ⟨b, off, none⟩) n2 c2, .slice a3 n3 c3] 121 #[.string yn, .string yc, .int .i64 ymi, .int .i64 yma] w1) := Lib.hid ((Kept2.new w _ _ _ _).step (q1.below _)); obtain ⟨g1, _⟩ := bcell (q1.below (w.heap.size + 2))) | (go_at_call 122; with_reducible refine (RC.out _).mono ?_; rintro e w2 ⟨rfl, q2⟩; have K2 : Hid (Kept2 w 58 #[.string c.name, .string c.super, .bool c.abs, .slice a1 n1 c1, .slice (some ⟨b, off, none⟩) n2 c2, .slice a3 n3 c3] 121 #[.string yn, .string yc, .int .i64 ymi, .int .i64 yma] w2) := Lib.hid (K1.out.step (q2.below _)); obtain ⟨g2, _⟩ := bcell (q2.below (w.heap.size + 2))))
  go_loopw [6] (fun j wr => ∃ i : Nat, i ≤ k ∧ j = .int .i64 (i : Int) ∧ Hid (Kept2 w 58 #[.string c.name, .string c.super, .bool c.abs, .slice a1 n1 c1, .slice (some ⟨b, off, none⟩) n2 c2, .slice a3 n3 c3] 121 #[.string yn, .string yc, .int .i64 ymi, .int .i64 yma] wr) ∧ Hid (∀ (a : Nat) (d : KidDef), a < i → c.kids[a]? = some d → (fun x : KidDef => decide (x.role = yn)) d = false)) (fun j _ => k - (intOf j).toNat)
  case atStart => exact ⟨0, Nat.zero_le _, rfl, K2, fun a d ha => by omega⟩
  case round =>
    obtain ⟨i, hi, rfl, hK, hf⟩ := hrel
    have hWr := HW.out.trans (hK.out.low.mono HW.out.size)
    have kk : wr.cell? ⟨w.heap.size, 4, none⟩ = some (.slice (some ⟨b, off, none⟩) n2 c2) := hK.out.b1.cell rfl
    have lw : w.heap.size < wr.heap.size := hK.out.b1.lt
    have lbr : b < wr.heap.size := by omega

    have k0 : wr.cell? ⟨w.heap.size + 1, 0, none⟩ = some (.string yn) := hK.out.b2.cell rfl
    have k1 : wr.cell? ⟨w.heap.size + 1, 1, none⟩ = some (.string yc) := hK.out.b2.cell rfl
    have k2 : wr.cell? ⟨w.heap.size + 1, 2, none⟩ = some (.int .i64 ymi) := hK.out.b2.cell rfl
    have k3 : wr.cell? ⟨w.heap.size + 1, 3, none⟩ = some (.int .i64 yma) := hK.out.b2.cell rfl
    by_cases hlt : i < k
    · obtain ⟨z, he⟩ := get_some HN.out (show i < n2 by omega)
      obtain ⟨_, xz, hzl, ⟨rfl, _⟩, hxz⟩ := (S.out.below hWr).at2 he
      simp only [KidDef.cells] at hxz
      have z0 := hxz 0 _ rfl
      simp only [Nat.add_zero] at z0
      have He := Lib.hid he
      have hin : i < n2 := by omega
      obtain ⟨zn, hzn⟩ : ∃ t, z.role = t := ⟨_, rfl⟩
      have Hzn := Lib.hid hzn
      rw [hzn] at z0
      have HK := hK
      clear he hxz hzl hWr hK hzn
      by_cases hyz : zn = yn
      · subst hyz
        have hv : kidE c.kids k ⟨zn, yc, ymi, yma⟩ = 40 := by rw [HV.out, if_pos (any_yes hlt He.out (by simp [Hzn.out]))]
        have HV2 := Lib.hid hv
        clear hv HV
        go_wp2_with fail
        go_quiet (fail)
        go_wp2_with fail
        go_ret
        exact ⟨by rw [HV2.out]; rfl, below_drewN HK.out.low _⟩
      · have hne : (zn.toList == yn.toList) = false := by simpa [toList_inj] using hyz
        have HZ := Lib.hid hyz
        clear hyz
        go_wp2_with fail
        go_quiet (fail)
        go_wp2_with fail
        go_roundw
        case rel => exact ⟨i + 1, by omega, by go_num, Lib.hid (HK.out.step (below_drewN (Below.refl _ _) _)), so_far1 He.out (by simp [Hzn.out, HZ.out]) hf.out⟩
        case measure => simp [intOf]; omega
    · obtain rfl : k = i := by omega
      have hv : kidE c.kids k ⟨yn, yc, ymi, yma⟩ = if (ymi ≠ 0 ∧ ymi ≠ 1) ∨ (yma ≠ 0 ∧ yma ≠ 1) then 44 else 0 := by rw [HV.out, if_neg (by rw [any_no (by rw [HN.out]; omega) hf.out]; simp)]
      have HV2 := Lib.hid hv
      have HK := hK
      clear hlt hv HV hWr hK hf
      by_cases t0 : ymi = 0
      · subst t0
        by_cases u0 : yma = 0
        · subst u0
          have hz := HV2.out
          rw [if_neg (by omega)] at hz
          have HZ := Lib.hid hz
          clear hz HV2
          go_wp2_with fail
          go_ret
          exact ⟨by rw [HZ.out]; rfl, HK.out.low⟩
        have u0' : (yma != 0) = true := by simpa using u0
        by_cases u1 : yma = 1
        · subst u1
          have hz := HV2.out
          rw [if_neg (by omega)] at hz
          have HZ := Lib.hid hz
          clear hz HV2
          go_wp2_with fail
          go_ret
          exact ⟨by rw [HZ.out]; rfl, HK.out.low⟩
        have u1' : (yma != 1) = true := by simpa using u1
        have hz := HV2.out
        rw [if_pos (by omega)] at hz
        have HZ := Lib.hid hz
        clear hz HV2
        go_wp2_with fail
        go_ret
        exact ⟨by rw [HZ.out]; rfl, HK.out.low⟩
      have t0' : (ymi != 0) = true := by simpa using t0
      by_cases t1 : ymi = 1
      · subst t1
        by_cases u0 : yma = 0
        · subst u0
          have hz := HV2.out
          rw [if_neg (by omega)] at hz
          have HZ := Lib.hid hz
          clear hz HV2
          go_wp2_with fail
          go_ret
          exact ⟨by rw [HZ.out]; rfl, HK.out.low⟩
        have u0' : (yma != 0) = true := by simpa using u0
        by_cases u1 : yma = 1
        · subst u1
          have hz := HV2.out
          rw [if_neg (by omega)] at hz
          have HZ := Lib.hid hz
          clear hz HV2
          go_wp2_with fail
          go_ret
          exact ⟨by rw [HZ.out]; rfl, HK.out.low⟩
        have u1' : (yma != 1) = true := by simpa using u1
        have hz := HV2.out
        rw [if_pos (by omega)] at hz
        have HZ := Lib.hid hz
        clear hz HV2
        go_wp2_with fail
        go_ret
        exact ⟨by rw [HZ.out]; rfl, HK.out.low⟩
      have t1' : (ymi != 1) = true := by simpa using t1
      have hz := HV2.out
      rw [if_pos (by omega)] at hz
      have HZ := Lib.hid hz
      clear hz HV2
      go_wp2_with fail
      go_ret
      exact ⟨by rw [HZ.out]; rfl, HK.out.low⟩

set_option maxRecDepth 100000 in
set_option maxHeartbeats 4000000 in
theorem r_ref {c : Concept} {x : List Value} (w w0 : World) (k : Nat) (y : RefDef) (hx : Concept.Is w0 w0.heap.size x c) (hw : Below w0.heap.size w0 w) (hd : c.refs[k]? = some y) :
    Calls Tryz.prog 183 #[.agg x.toArray, .int .i64 (k : Int)] w fun e w' => e = .returned (.int .i64 (refE c.refs k y : Int)) ∧ Below w.heap.size w w' := by
  obtain ⟨v1, v2, v3, rfl, s1, s2, s3, f1, f2, f3, o1, o2⟩ := hx
  obtain ⟨a1, n1, c1, rfl⟩ := s1.form'
  obtain ⟨a2, n2, c2, rfl⟩ := s2.form'
  obtain ⟨a3, n3, c3, rfl⟩ := s3.form'
  have HW := Lib.hid hw
  have S := Lib.hid s3
  have hk : k < n3 := by have := s3.len; have := (List.getElem?_eq_some_iff.1 hd).1; omega
  have hcap := s3.caps
  have hnl : c.refs.length = n3 := s3.len.symm
  have HN := Lib.hid hnl
  obtain ⟨b, off, xx, rfl, hbB, hxl, hR, hxx⟩ := (s3.below hw).at_ hd
  obtain ⟨yn, yc, yb⟩ := y
  obtain ⟨rfl, p1, p2⟩ := hR
  simp only [RefDef.cells] at hxx p1 p2
  have h0 := hxx 0 _ rfl
  have h1 := hxx 1 _ rfl
  have h2 := hxx 2 _ rfl
  simp only [Nat.add_zero] at h0
  have hn63 : n3 ≤ 9223372036854775807 := by unfold maxLen at hcap; omega
  have lb : b < w.heap.size := by have := hw.size; omega
  have HD := Lib.hid hd
  clear s1 s2 s3 hw hd hxx hxl hnl hcap f1 f2 f3
  have hE : refE c.refs k ⟨yn, yc, yb⟩ = refE c.refs k ⟨yn, yc, yb⟩ := rfl
  by_cases h32 : 32 ≤ k
  · have hv : refE c.refs k ⟨yn, yc, yb⟩ = 4 := by simp only [refE]; rw [if_pos h32]
    rw [hv]; clear hv hE
    have d32 : decide (32 ≤ (k : Int)) = true := by simp; omega
    go_enter Tryz.func183, Tryz.ntmps183
    go_wp2_with fail
    go_ret
    exact ⟨rfl, (Kept2.new w _ _ _ _).low⟩
  have d32 : decide (32 ≤ (k : Int)) = false := by simp; omega
  clear hE
  rcases hR : okName yn with _ | _
  · have hv : refE c.refs k ⟨yn, yc, yb⟩ = 2 := by simp only [refE]; rw [if_neg h32, if_pos (.inl hR)]
    rw [hv]; clear hv
    have RR := Lib.hid (fun W => rright_of yn p1 false hR W)
    clear hR
    go_enter Tryz.func183, Tryz.ntmps183
    go_wp2_with (first | (go_at_call 122; with_reducible refine (RR.out _).mono ?_; rintro e w1 ⟨rfl, q1⟩; have K1 : Hid (Kept2 w 58 #[.string c.name, .string c.super, .bool c.abs, .slice a1 n1 c1, .slice a2 n2 c2, .slice (some ⟨b, off, none⟩) n3 c3] 124 #[.string yn, .string yc, .bool yb] w1) := Lib.hid ((Kept2.new w _ _ _ _).step (q1.below _)); obtain ⟨g1, _⟩ := bcell (q1.below (w.heap.size + 2))))
    go_ret
    exact ⟨rfl, K1.out.low⟩
  have RR := Lib.hid (fun W => rright_of yn p1 true hR W)
  rcases hR2 : okName yc with _ | _
  · have hv : refE c.refs k ⟨yn, yc, yb⟩ = 2 := by simp only [refE]; rw [if_neg h32, if_pos (.inr hR2)]
    rw [hv]; clear hv
    have RC := Lib.hid (fun W => rright_of yc p2 false hR2 W)
    clear hR hR2
    go_enter Tryz.func183, Tryz.ntmps183
    go_wp2_with (first | (go_at_call 122; with_reducible refine (RR.out _).mono ?_; rintro e w1 ⟨rfl, q1⟩; have K1 : Hid (Kept2 w 58 #[.string c.name, .string c.super, .bool c.abs, .slice a1 n1 c1, .slice a2 n2 c2, .slice (some ⟨b, off, none⟩) n3 c3] 124 #[.string yn, .string yc, .bool yb] w1) := Lib.hid ((Kept2.new w _ _ _ _).step (q1.below _)); obtain ⟨g1, _⟩ := bcell (q1.below (w.heap.size + 2))) | (go_at_call 122; with_reducible refine (RC.out _).mono ?_; rintro e w2 ⟨rfl, q2⟩; have K2 : Hid (Kept2 w 58 #[.string c.name, .string c.super, .bool c.abs, .slice a1 n1 c1, .slice a2 n2 c2, .slice (some ⟨b, off, none⟩) n3 c3] 124 #[.string yn, .string yc, .bool yb] w2) := Lib.hid (K1.out.step (q2.below _)); obtain ⟨g2, _⟩ := bcell (q2.below (w.heap.size + 2))))
    go_ret
    exact ⟨rfl, K2.out.low⟩
  have RC := Lib.hid (fun W => rright_of yc p2 true hR2 W)
  have HV : Hid (refE c.refs k ⟨yn, yc, yb⟩ = if (c.refs.take k).any (fun x => decide (x.role = yn)) then 40 else 0) := by show _ = _; simp only [refE]; rw [if_neg h32, if_neg (by rw [hR, hR2]; simp)]
  clear hR hR2
  go_enter Tryz.func183, Tryz.ntmps183
  go_wp2_with (first | (go_at_call 122; with_reducible refine (RR.out _).mono ?_; rintro e w1 ⟨rfl, q1⟩; have K1 : Hid (Kept2 w 58 #[.string c.name, .string c.super, .bool c.abs, .slice a1 n1 c1, .slice a2 n2 c2, .slice (some ⟨b, off, none⟩) n3 c3] 124 #[.string yn, .string yc, .bool yb] w1) := Lib.hid ((Kept2.new w _ _ _ _).step (q1.below _)); obtain ⟨g1, _⟩ := bcell (q1.below (w.heap.size + 2))) | (go_at_call 122; with_reducible refine (RC.out _).mono ?_; rintro e w2 ⟨rfl, q2⟩; have K2 : Hid (Kept2 w 58 #[.string c.name, .string c.super, .bool c.abs, .slice a1 n1 c1, .slice a2 n2 c2, .slice (some ⟨b, off, none⟩) n3 c3] 124 #[.string yn, .string yc, .bool yb] w2) := Lib.hid (K1.out.step (q2.below _)); obtain ⟨g2, _⟩ := bcell (q2.below (w.heap.size + 2))))
  go_loopw [6] (fun j wr => ∃ i : Nat, i ≤ k ∧ j = .int .i64 (i : Int) ∧ Hid (Kept2 w 58 #[.string c.name, .string c.super, .bool c.abs, .slice a1 n1 c1, .slice a2 n2 c2, .slice (some ⟨b, off, none⟩) n3 c3] 124 #[.string yn, .string yc, .bool yb] wr) ∧ Hid (∀ (a : Nat) (d : RefDef), a < i → c.refs[a]? = some d → (fun x : RefDef => decide (x.role = yn)) d = false)) (fun j _ => k - (intOf j).toNat)
  case atStart => exact ⟨0, Nat.zero_le _, rfl, K2, fun a d ha => by omega⟩
  case round =>
    obtain ⟨i, hi, rfl, hK, hf⟩ := hrel
    have hWr := HW.out.trans (hK.out.low.mono HW.out.size)
    have kk : wr.cell? ⟨w.heap.size, 5, none⟩ = some (.slice (some ⟨b, off, none⟩) n3 c3) := hK.out.b1.cell rfl
    have lw : w.heap.size < wr.heap.size := hK.out.b1.lt
    have lbr : b < wr.heap.size := by omega

    have k0 : wr.cell? ⟨w.heap.size + 1, 0, none⟩ = some (.string yn) := hK.out.b2.cell rfl
    have k1 : wr.cell? ⟨w.heap.size + 1, 1, none⟩ = some (.string yc) := hK.out.b2.cell rfl
    have k2 : wr.cell? ⟨w.heap.size + 1, 2, none⟩ = some (.bool yb) := hK.out.b2.cell rfl
    by_cases hlt : i < k
    · obtain ⟨z, he⟩ := get_some HN.out (show i < n3 by omega)
      obtain ⟨_, xz, hzl, ⟨rfl, _⟩, hxz⟩ := (S.out.below hWr).at2 he
      simp only [RefDef.cells] at hxz
      have z0 := hxz 0 _ rfl
      simp only [Nat.add_zero] at z0
      have He := Lib.hid he
      have hin : i < n3 := by omega
      obtain ⟨zn, hzn⟩ : ∃ t, z.role = t := ⟨_, rfl⟩
      have Hzn := Lib.hid hzn
      rw [hzn] at z0
      have HK := hK
      clear he hxz hzl hWr hK hzn
      by_cases hyz : zn = yn
      · subst hyz
        have hv : refE c.refs k ⟨zn, yc, yb⟩ = 40 := by rw [HV.out, if_pos (any_yes hlt He.out (by simp [Hzn.out]))]
        have HV2 := Lib.hid hv
        clear hv HV
        go_wp2_with fail
        go_quiet (fail)
        go_wp2_with fail
        go_ret
        exact ⟨by rw [HV2.out]; rfl, below_drewN HK.out.low _⟩
      · have hne : (zn.toList == yn.toList) = false := by simpa [toList_inj] using hyz
        have HZ := Lib.hid hyz
        clear hyz
        go_wp2_with fail
        go_quiet (fail)
        go_wp2_with fail
        go_roundw
        case rel => exact ⟨i + 1, by omega, by go_num, Lib.hid (HK.out.step (below_drewN (Below.refl _ _) _)), so_far1 He.out (by simp [Hzn.out, HZ.out]) hf.out⟩
        case measure => simp [intOf]; omega
    · obtain rfl : k = i := by omega
      have hv : refE c.refs k ⟨yn, yc, yb⟩ = 0 := by rw [HV.out, if_neg (by rw [any_no (by rw [HN.out]; omega) hf.out]; simp)]
      have HV2 := Lib.hid hv
      have HK := hK
      clear hlt hv HV hWr hK hf
      go_wp2_with fail
      go_ret
      exact ⟨by rw [HV2.out]; rfl, HK.out.low⟩

/-- an element of a list, or one too many -/
def eM {α : Type} (most : Nat) (f : Nat → α → Nat × Nat) (k : Nat) (x : α) : Nat × Nat := if most ≤ k then (0, 4) else f k x
set_option maxRecDepth 100000 in
set_option maxHeartbeats 4000000 in
theorem r_use {l : Language} {x : List Value} (w w0 : World) (k : Nat) (y : ByteArray) (hx : Language.Is w0 w0.heap.size x l) (hw : Below w0.heap.size w0 w) (hd : l.uses[k]? = some y) :
    Calls Tryz.prog 124 #[.agg x.toArray, .int .i64 (k : Int)] w fun e w' => e = .returned (.int .i64 ((eM 8 (useE l) k y).2 : Int)) ∧ Below w.heap.size w w' := by
  obtain ⟨v1, v2, v3, v4, v5, v6, rfl, s1, s2, s3, s4, s5, s6, _, o1, _⟩ := hx
  obtain ⟨a1, n1, c1, rfl⟩ := s1.form'
  obtain ⟨a2, n2, c2, rfl⟩ := s2.form'
  obtain ⟨a3, n3, c3, rfl⟩ := s3.form'
  obtain ⟨a4, n4, c4, rfl⟩ := s4.form'
  obtain ⟨a5, n5, c5, rfl⟩ := s5.form'
  obtain ⟨a6, n6, c6, rfl⟩ := s6.form'
  have HW := Lib.hid hw
  have S := Lib.hid s1
  have hk : k < n1 := by have := s1.len; have := (List.getElem?_eq_some_iff.1 hd).1; omega
  have hcap := s1.caps
  have HN := Lib.hid (show l.uses.length = n1 from s1.len.symm)
  obtain ⟨b, off, xx, rfl, hbB, hxl, ⟨rfl, oy⟩, hxx⟩ := (s1.below hw).at_ hd
  have h0 := hxx 0 _ rfl
  simp only [Nat.add_zero, Nat.mul_one] at h0
  have hn63 : n1 ≤ 9223372036854775807 := by unfold maxLen at hcap; omega
  have lb : b < w.heap.size := by have := hw.size; omega
  have HD := Lib.hid hd
  obtain ⟨z, hz⟩ : ∃ z, l.name = z := ⟨_, rfl⟩
  have HZ := Lib.hid hz
  rw [hz]
  clear s1 s2 s3 s4 s5 s6 hw hd hxx hxl hcap hz
  by_cases h8 : 8 ≤ k
  · have hv : (eM 8 (useE l) k y).2 = 4 := by unfold eM; rw [if_pos h8]
    rw [hv]; clear hv
    have d8 : decide (8 ≤ (k : Int)) = true := by simp; omega
    go_enter Tryz.func124, Tryz.ntmps124
    go_wp2_with fail
    go_ret
    exact ⟨rfl, (Kept.new w _ _).low⟩
  have d8 : decide (8 ≤ (k : Int)) = false := by simp; omega
  have HV : Hid ((eM 8 (useE l) k y).2 = if okName y = false then 2 else if y = z then 40 else if (l.uses.take k).any (fun x => decide (x = y)) then 40 else 0) := by
    show _ = _
    unfold eM
    rw [if_neg h8]
    unfold useE
    rw [HZ.out]
    split
    · rfl
    · split
      · rfl
      · split <;> rfl
  rcases hR : okName y with _ | _
  · have hv : (eM 8 (useE l) k y).2 = 2 := by rw [HV.out, if_pos hR]
    rw [hv]; clear hv HV
    have RR := Lib.hid (fun W => rright_of y oy false hR W)
    clear hR
    go_enter Tryz.func124, Tryz.ntmps124
    go_wp2_with (first | (go_at_call 122; with_reducible refine (RR.out _).mono ?_; rintro e w1 ⟨rfl, q1⟩; have K1 : Hid (Kept w w.heap.size 39 #[.string z, .int .i64 l.version, .slice (some ⟨b, off, none⟩) n1 c1, .slice a2 n2 c2, .slice a3 n3 c3, .slice a4 n4 c4, .slice a5 n5 c5, .slice a6 n6 c6] w1) := Lib.hid ((Kept.new w _ _).step (q1.below _)); obtain ⟨g1, _⟩ := bcell (q1.below (w.heap.size + 1)); have y0 : w1.cell? ⟨b, off + k, none⟩ = some (.string y) := (K1.out.low.cell lb).trans h0; have kn : w1.cell? ⟨w.heap.size, 0, none⟩ = some (.string z) := K1.out.blk.cell rfl; have kk : w1.cell? ⟨w.heap.size, 2, none⟩ = some (.slice (some ⟨b, off, none⟩) n1 c1) := K1.out.blk.cell rfl))
    go_ret
    exact ⟨rfl, K1.out.low⟩
  have RR := Lib.hid (fun W => rright_of y oy true hR W)
  by_cases hyz : y = z
  · have hv : (eM 8 (useE l) k y).2 = 40 := by rw [HV.out, if_neg (by rw [hR]; simp), if_pos hyz]
    rw [hv]; clear hv HV
    subst hyz
    clear hR
    go_enter Tryz.func124, Tryz.ntmps124
    go_wp2_with (first | (go_at_call 122; with_reducible refine (RR.out _).mono ?_; rintro e w1 ⟨rfl, q1⟩; have K1 : Hid (Kept w w.heap.size 39 #[.string y, .int .i64 l.version, .slice (some ⟨b, off, none⟩) n1 c1, .slice a2 n2 c2, .slice a3 n3 c3, .slice a4 n4 c4, .slice a5 n5 c5, .slice a6 n6 c6] w1) := Lib.hid ((Kept.new w _ _).step (q1.below _)); obtain ⟨g1, _⟩ := bcell (q1.below (w.heap.size + 1)); have y0 : w1.cell? ⟨b, off + k, none⟩ = some (.string y) := (K1.out.low.cell lb).trans h0; have kn : w1.cell? ⟨w.heap.size, 0, none⟩ = some (.string y) := K1.out.blk.cell rfl; have kk : w1.cell? ⟨w.heap.size, 2, none⟩ = some (.slice (some ⟨b, off, none⟩) n1 c1) := K1.out.blk.cell rfl))
    go_quiet (fail)
    go_wp2_with fail
    go_ret
    exact ⟨rfl, below_drewN K1.out.low _⟩
  have hne : (y.toList == z.toList) = false := by simpa [toList_inj] using hyz
  have HV2 : Hid ((eM 8 (useE l) k y).2 = if (l.uses.take k).any (fun x => decide (x = y)) then 40 else 0) := by show _ = _; rw [HV.out, if_neg (by rw [hR]; simp), if_neg hyz]
  clear hR HV hyz
  go_enter Tryz.func124, Tryz.ntmps124
  go_wp2_with (first | (go_at_call 122; with_reducible refine (RR.out _).mono ?_; rintro e w1 ⟨rfl, q1⟩; have K1 : Hid (Kept w w.heap.size 39 #[.string z, .int .i64 l.version, .slice (some ⟨b, off, none⟩) n1 c1, .slice a2 n2 c2, .slice a3 n3 c3, .slice a4 n4 c4, .slice a5 n5 c5, .slice a6 n6 c6] w1) := Lib.hid ((Kept.new w _ _).step (q1.below _)); obtain ⟨g1, _⟩ := bcell (q1.below (w.heap.size + 1)); have y0 : w1.cell? ⟨b, off + k, none⟩ = some (.string y) := (K1.out.low.cell lb).trans h0; have kn : w1.cell? ⟨w.heap.size, 0, none⟩ = some (.string z) := K1.out.blk.cell rfl; have kk : w1.cell? ⟨w.heap.size, 2, none⟩ = some (.slice (some ⟨b, off, none⟩) n1 c1) := K1.out.blk.cell rfl))
  go_quiet (fail)
  go_wp2_with fail
  go_loopw [5] (fun j wr => ∃ i : Nat, i ≤ k ∧ j = .int .i64 (i : Int) ∧ Hid (Kept w w.heap.size 39 #[.string z, .int .i64 l.version, .slice (some ⟨b, off, none⟩) n1 c1, .slice a2 n2 c2, .slice a3 n3 c3, .slice a4 n4 c4, .slice a5 n5 c5, .slice a6 n6 c6] wr) ∧ Hid (∀ (a : Nat) (d : ByteArray), a < i → l.uses[a]? = some d → (fun x : ByteArray => decide (x = y)) d = false)) (fun j _ => k - (intOf j).toNat)
  case atStart => exact ⟨0, Nat.zero_le _, rfl, Lib.hid (K1.out.step (below_drewN (Below.refl _ _) _)), fun a d ha => by omega⟩
  case round =>
    obtain ⟨i, hi, rfl, hK, hf⟩ := hrel
    have hWr := HW.out.trans (hK.out.low.mono HW.out.size)
    have kk : wr.cell? ⟨w.heap.size, 2, none⟩ = some (.slice (some ⟨b, off, none⟩) n1 c1) := hK.out.blk.cell rfl
    have lw : w.heap.size < wr.heap.size := hK.out.blk.lt
    have lbr : b < wr.heap.size := by omega
    have y0 : wr.cell? ⟨b, off + k, none⟩ = some (.string y) := (hK.out.low.cell lb).trans h0
    by_cases hlt : i < k
    · obtain ⟨t, he⟩ := get_some HN.out (show i < n1 by omega)
      obtain ⟨_, xz, hzl, ⟨rfl, _⟩, hxz⟩ := (S.out.below hWr).at2 he
      have z0 := hxz 0 _ rfl
      simp only [Nat.add_zero, Nat.mul_one] at z0
      have He := Lib.hid he
      have hin : i < n1 := by omega
      have HK := hK
      clear he hxz hzl hWr hK
      by_cases hty : t = y
      · subst hty
        have hv : (eM 8 (useE l) k t).2 = 40 := by rw [HV2.out, if_pos (any_yes hlt He.out (by simp))]
        have HV3 := Lib.hid hv
        clear hv HV2
        go_wp2_with fail
        go_quiet (fail)
        go_wp2_with fail
        go_ret
        exact ⟨by rw [HV3.out]; rfl, below_drewN HK.out.low _⟩
      · have hne2 : (t.toList == y.toList) = false := by simpa [toList_inj] using hty
        have HZ2 := Lib.hid hty
        clear hty
        go_wp2_with fail
        go_quiet (fail)
        go_wp2_with fail
        go_roundw
        case rel => exact ⟨i + 1, by omega, by go_num, Lib.hid (HK.out.step (below_drewN (Below.refl _ _) _)), so_far1 He.out (by simp [HZ2.out]) hf.out⟩
        case measure => simp [intOf]; omega
    · obtain rfl : k = i := by omega
      have hv : (eM 8 (useE l) k y).2 = 0 := by rw [HV2.out, if_neg (by rw [any_no (by rw [HN.out]; omega) hf.out]; simp)]
      have HV3 := Lib.hid hv
      have HK := hK
      clear hlt hv HV2 hWr hK hf
      go_wp2_with fail
      go_ret
      exact ⟨by rw [HV3.out]; rfl, HK.out.low⟩
end Go.Proofs.YtikplcpghohklaaGreat
