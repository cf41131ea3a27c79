/- The reference's Print, Part. -/
import Derived.Test.YtlenenfgedgmhaaDoorBt8
import Derived.Test.YtlenenfgedgmhaaDoorMRn
import Derived.Test.YtlenenfgedgmhaaDoorPt1
import Derived.Test.YtlenenfgedgmhaaDoorMROrd
namespace Go.Proofs.YtlenenfgedgmhaaDoor
set_option linter.unusedSimpArgs false
set_option linter.unusedVariables false
open Go.RowKit
theorem sumT_mono (l : List ND) (j : Nat) : sumT (l.take j) ≤ sumT l := by
  have app : ∀ (a b : List ND), sumT (a ++ b) = sumT a + sumT b := by
    intro a b
    induction a with
    | nil => simp [sumT]
    | cons x a ih => simp only [List.cons_append, sumT, ih]; omega
  have := app (l.take j) (l.drop j)
  rw [List.take_append_drop] at this
  omega
set_option maxRecDepth 100000 in
set_option maxHeartbeats 8000000 in
theorem rprint {l : List ND} {v : Value} (w w0 : World) (hs : SlR w0 w0.heap.size 4 (ND.Is w0 w0.heap.size) v l) (hok : ∀ d ∈ l, NdOk d) (hw : Below w0.heap.size w0 w) :
    Calls Tryd.prog 15 #[.agg #[v]] w fun e w' => e = .returned (.tuple #[.string (txt (printE l).1), .int .i64 ((printE l).2 : Int)]) ∧ Below w.heap.size w w' := by
  obtain ⟨a, c, rfl⟩ : ∃ a c, v = .slice a l.length c := by obtain ⟨a, c, h, _⟩ := hs.form; exact ⟨a, c, h⟩
  have hn63 : l.length ≤ 9223372036854775807 := by have := hs.caps; unfold maxLen at this; omega
  have RT := Lib.hid (fun Y (hY : Below w.heap.size w Y) => rright Y w0 hs hok (hw.trans (hY.mono hw.size)))
  have B0 : Hid (Below w.heap.size w (w.alloc (.cells #[.slice a l.length c] 24))) := Lib.hid ((Below.refl _ _).alloc (Nat.le_refl _) _)
  have K0 : Hid (Blk (w.alloc (.cells #[.slice a l.length c] 24)) w.heap.size 24 #[.slice a l.length c]) := Lib.hid (Blk.new _ _ _)
  obtain ⟨R, hR⟩ : ∃ R, printE l = R := ⟨_, rfl⟩
  rw [hR]
  unfold printE at hR
  obtain ⟨rt, hrt⟩ : ∃ z, rightE l = z := ⟨_, rfl⟩
  rw [hrt] at RT hR
  by_cases h0 : rt = 0
  rotate_left
  · rw [if_pos h0] at hR
    subst hR
    have e1 : ((rt : Int) != 0) = true := by simpa using h0
    clear hs hok hw hrt h0
    go_enter Tryd.func15, Tryd.ntmps15
    go_wp2_with (first
      | (go_at_call 19; refine (RT.out _ B0.out).mono ?_; rintro e w1 ⟨rfl, b1⟩; have B1 := Lib.hid (B0.out.trans (b1.mono B0.out.size)); clear b1))
    go_ret2
    exact ⟨rfl, B1.out⟩
  subst h0
  rw [if_neg (by simp)] at hR
  obtain ⟨hle, r, hr, hr2, _⟩ := right_met hrt
  have hlen := tell_len l hok l.length 0 0 r hr
  have TL := Lib.hid (fun Y (hY : Below w0.heap.size w0 Y) => told_all hs hok hle l.length Y 0 0 hY ⟨r, hr⟩ (by omega))
  have HLEN : Hid ((tellN l l.length 0 0).length ≤ 5120000) := Lib.hid (by omega)
  have HS := Lib.hid hs
  have HW := Lib.hid hw
  have HOK := Lib.hid hok
  obtain ⟨n, hn⟩ : ∃ n, l.length = n := ⟨_, rfl⟩
  have HN := Lib.hid hn
  have HR := Lib.hid hR
  have MONO := Lib.hid (sumT_mono l)
  rw [hn] at hn63 hle B0 K0 RT TL HLEN HR ⊢
  clear hs hok hw hrt hr hr2 hlen hn hR
  go_enter Tryd.func15, Tryd.ntmps15
  go_wp2_with (first
    | (go_at_call 19; refine (RT.out _ B0.out).mono ?_; rintro e w1 ⟨rfl, b1⟩; have B1 := Lib.hid (B0.out.trans (b1.mono B0.out.size)); have c1 : w1.cell? ⟨w.heap.size, 0, none⟩ = some (.slice a n c) := (K0.out.below b1 K0.out.lt).cell (i := 0) rfl; have KB1 := Lib.hid (K0.out.below b1 K0.out.lt); clear b1))
  clear RT c1
  go_loopw [2, 3, 5, 6] (fun _ _ sv jv wr => ∃ j : Nat, j ≤ n ∧ sv = .int .i64 (sumT (l.take j) : Int) ∧ jv = .int .i64 (j : Int) ∧ Hid (sumT (l.take j) ≤ 4096) ∧ Hid (Blk wr w.heap.size 24 #[.slice a n c]) ∧ Hid (Below w.heap.size w wr)) (fun _ _ _ jv _ => n - (intOf jv).toNat)
  case atStart => exact ⟨0, Nat.zero_le _, by simp [sumT], by go_num, Lib.hid (by simp [sumT]), KB1, B1⟩
  case round =>
    obtain ⟨j, hj, rfl, rfl, hsu, hkb, hb⟩ := hrel
    have hs6 := hsu.out
    have j0 : (0 : Int) ≤ (j : Int) := Int.natCast_nonneg _
    have q0 : wr.cell? ⟨w.heap.size, 0, none⟩ = some (.slice a n c) := hkb.out.cell (i := 0) rfl
    have lq := hkb.out.lt
    obtain ⟨sm, hsm⟩ : ∃ z, sumT (l.take j) = z := ⟨_, rfl⟩
    rw [hsm] at hs6 ⊢
    have HSM := Lib.hid hsm
    have s0 : (0 : Int) ≤ (sm : Int) := Int.natCast_nonneg _
    have s63 : (sm : Int) ≤ 4096 := by omega
    by_cases hlt : j < n
    · obtain ⟨d, hd⟩ := get_some HN.out hlt
      have hsd := sumT_take hd
      rw [hsm] at hsd
      have hdl := (HOK.out d (List.mem_iff_getElem?.2 ⟨j, hd⟩)).2.1
      have hwr : Below w0.heap.size w0 wr := HW.out.trans (hb.out.mono HW.out.size)
      obtain ⟨bN, off, x, rfl, hbN, _, ⟨kv, rfl, hks⟩, hx⟩ := (HS.out.below hwr).at_ hd
      obtain ⟨tl, htl⟩ : ∃ z, d.text.length = z := ⟨_, rfl⟩
      have tz : ((txt d.text).size : Int) = (tl : Int) := by rw [txt_size, htl]
      rw [htl] at hdl hsd
      have x1 : wr.cell? ⟨bN, off + j * 4 + 1, none⟩ = some (.string (txt d.text)) := hx 1 _ rfl
      have lb : bN < wr.heap.size := by have := hwr.size; omega
      have tl5 : (tl : Int) ≤ 140737488355328 := by omega
      have tl0 : (0 : Int) ≤ (tl : Int) := Int.natCast_nonneg _
      have HSD := Lib.hid hsd
      clear hd hx hks hwr htl hsm hsd hbN
      by_cases hbig : 4096 < sm + tl
      · have d1 : decide ((4096 : Int) < (sm : Int) + (tl : Int)) = true := by simp only [decide_eq_true_eq]; omega
        have hv : R = ([], 3) := by
          have h1 := MONO.out (j + 1)
          have h2 := HSD.out
          rw [← HR.out, if_pos (by omega)]
        subst hv
        clear hbig
        go_wp2_with fail
        go_ret2
        exact ⟨rfl, hb.out⟩
      · have d1 : decide ((4096 : Int) < (sm : Int) + (tl : Int)) = false := by simp only [decide_eq_false_iff_not]; omega
        go_wp2_with fail
        go_roundw
        case rel => exact ⟨j + 1, by omega, by rw [HSD.out]; go_num, by go_num, Lib.hid (by rw [HSD.out]; omega), hkb, hb⟩
        case measure => simp [intOf]; omega
    · obtain rfl : j = n := by omega
      have htk : l.take j = l := List.take_of_length_le (by rw [HN.out]; exact Nat.le_refl _)
      have hRR := HR.out
      rw [if_neg (by rw [← htk, hsm]; omega)] at hRR
      have djj : decide (j < j) = false := by simp
      have hwr : Below w0.heap.size w0 wr := HW.out.trans (hb.out.mono HW.out.size)
      have TT := Lib.hid (TL.out wr hwr)
      obtain ⟨tx, htx⟩ : ∃ z, tellN l j 0 0 = z := ⟨_, rfl⟩
      rw [htx] at TT hRR
      obtain ⟨tn, htn⟩ : ∃ z, tx.length = z := ⟨_, rfl⟩
      have t5 : tn ≤ 5120000 := by rw [← htn, ← htx]; exact HLEN.out
      rw [htn] at hRR
      have tz : ((txt tx).size : Int) = (tn : Int) := by rw [txt_size, htn]
      have HTT := Lib.hid (fun (Y : World) (hY : Y = wr) => hY ▸ TT.out)
      have HRR := Lib.hid hRR
      clear hRR htk hsm hlt htx htn hwr
      by_cases hlong : 4096 < tn
      · have d3 : decide ((4096 : Int) < (tn : Int)) = true := by simp only [decide_eq_true_eq]; omega
        have d4 : decide (4096 < tn) = true := by simpa using hlong
        have hv : R = ([], 3) := by rw [← HRR.out, if_pos hlong]
        subst hv
        clear hlong
        go_wp2_with (first
          | (go_at_call 33; refine TT.out.mono ?_; rintro e w3 ⟨rfl, b3⟩; have B3 := Lib.hid (hb.out.trans (b3.mono hb.out.size)); clear b3))
        go_ret2
        exact ⟨rfl, B3.out⟩
      · have d3 : decide ((4096 : Int) < (tn : Int)) = false := by simp only [decide_eq_false_iff_not]; omega
        have d4 : decide (4096 < tn) = false := by simpa using hlong
        have hv : R = (tx, 0) := by rw [← HRR.out, if_neg hlong]
        subst hv
        clear hlong
        go_wp2_with (first
          | (go_at_call 33; refine TT.out.mono ?_; rintro e w3 ⟨rfl, b3⟩; have B3 := Lib.hid (hb.out.trans (b3.mono hb.out.size)); clear b3))
        go_ret2
        exact ⟨rfl, B3.out⟩
/-- nodes that are read, as the program's own -/
theorem enOf {w : World} {B : Nat} {v : Value} {es : List EN} (h : SlR w B 4 (ND.Is w B) v (es.map EN.nd)) : SlR w B 4 (ENode.Is w B) v es := by
  obtain ⟨a, c, e1, e2, e3, e4⟩ := h
  rw [List.length_map] at e1 e2 e4
  refine ⟨a, c, e1, e2, e3, fun hl => ?_⟩
  obtain ⟨b, off, k1, k2, k3⟩ := e4 hl
  refine ⟨b, off, k1, k2, fun i y hy => ?_⟩
  obtain ⟨x, m1, ⟨kv, rfl, hk⟩, m3⟩ := k3 i y.nd (by rw [List.getElem?_map, hy]; rfl)
  refine ⟨_, m1, ⟨kv, rfl, ?_⟩, m3⟩
  rw [nd_kids] at hk
  obtain ⟨a', c', f1, f2, f3, f4⟩ := hk
  rw [List.length_map] at f1 f2 f4
  refine ⟨a', c', f1, f2, f3, fun hl' => ?_⟩
  obtain ⟨b', off', q1, q2, q3⟩ := f4 hl'
  refine ⟨b', off', q1, q2, fun i z hz => ?_⟩
  obtain ⟨x, n1, n2, n3⟩ := q3 i (z : Int) (by rw [List.getElem?_map, hz]; rfl)
  exact ⟨x, n1, n2, n3⟩
mutual
theorem rep_flat {es : List EN} : ∀ (t : Tr) (p : Nat), (es.drop p).take t.size = t.flat p → Rep es t p
  | .node k s n ks, p, h => by
    simp only [Tr.size, Tr.flat] at h
    simp only [Rep]
    refine ⟨placesL ks (p + 1), ?_, reps_flat ks (p + 1) ?_⟩
    · have := congrArg List.head? h
      rw [Nat.add_comm, List.head?_take, if_neg (by omega), List.head?_drop] at this
      exact this
    · have := congrArg (List.drop 1) h
      rw [List.drop_take, List.drop_drop, Nat.add_sub_cancel_left] at this
      exact this
theorem reps_flat {es : List EN} : ∀ (ts : List Tr) (p : Nat), (es.drop p).take (sizeL ts) = flatL ts p → Reps es ts (placesL ts p)
  | [], p, h => rfl
  | t :: ts, p, h => by
    simp only [sizeL, flatL] at h
    rw [List.take_add] at h
    have hln : ((es.drop p).take t.size).length = (t.flat p).length := by
      have := congrArg List.length h
      simp only [List.length_append, List.length_take, List.length_drop, trFlat_len, trFlatL_len] at this ⊢
      omega
    obtain ⟨e1, e2⟩ := List.append_inj h hln
    rw [List.drop_drop] at e2
    simp only [Reps, placesL]
    exact ⟨p, placesL ts (p + t.size), rfl, rep_flat t p e1, reps_flat ts (p + t.size) e2⟩
end

set_option maxRecDepth 100000 in
set_option maxHeartbeats 8000000 in
/-- no expression, or no node of it -/
theorem rpart_none {l : List ND} {v : Value} (w w0 : World) (hs : SlR w0 w0.heap.size 4 (ND.Is w0 w0.heap.size) v l) (hok : ∀ d ∈ l, NdOk d) (hw : Below w0.heap.size w0 w) (at_ : Int) (r : Nat) (hr : (rightE l ≠ 0 ∧ r = rightE l) ∨ (rightE l = 0 ∧ (at_ < 0 ∨ (l.length : Int) ≤ at_) ∧ r = 2)) :
    Calls Tryd.prog 17 #[.agg #[v], .int .i64 at_] w (PartO w [] r) := by
  obtain ⟨a, c, rfl⟩ : ∃ a c, v = .slice a l.length c := by obtain ⟨a, c, h, _⟩ := hs.form; exact ⟨a, c, h⟩
  have hn63 : l.length ≤ 9223372036854775807 := by have := hs.caps; unfold maxLen at this; omega
  have RT := Lib.hid (fun Y (hY : Below w.heap.size w Y) => rright Y w0 hs hok (hw.trans (hY.mono hw.size)))
  have B0 : Hid (Below w.heap.size w ((w.alloc (.cells #[.slice a l.length c] 24)).alloc (.cells #[.slice none 0 0] 24))) := Lib.hid (((Below.refl _ _).alloc (Nat.le_refl _) _).alloc (by rw [World.size_alloc]; omega) _)
  have K0 : Hid (Blk ((w.alloc (.cells #[.slice a l.length c] 24)).alloc (.cells #[.slice none 0 0] 24)) w.heap.size 24 #[.slice a l.length c]) := Lib.hid ((Blk.new _ _ _).alloc _)
  have R0 : Hid (Blk ((w.alloc (.cells #[.slice a l.length c] 24)).alloc (.cells #[.slice none 0 0] 24)) (w.heap.size + 1) 24 #[.slice none 0 0]) := Lib.hid (Blk.new_ (by rw [World.size_alloc]) _ _)
  obtain ⟨rc, hrc⟩ : ∃ z, rightE l = z := ⟨_, rfl⟩
  rw [hrc] at RT hr
  obtain ⟨n, hn⟩ : ∃ n, l.length = n := ⟨_, rfl⟩
  rw [hn] at hn63 B0 K0 R0 RT hr ⊢
  clear hs hok hw hrc hn
  have fin : ∀ (w9 : World) (rr : Nat), Below w.heap.size w w9 → PartO w [] rr (.returned (.tuple #[.agg #[.slice none 0 0], .int .i64 (rr : Int)])) w9 := fun w9 rr h => ⟨_, [], rfl, EL.nil _ _, rfl, h⟩
  rcases hr with ⟨hne, rfl⟩ | ⟨h0, hat, rfl⟩
  · have e1 : ((r : Int) != 0) = true := by simpa using hne
    clear hne
    go_enter Tryd.func17, Tryd.ntmps17
    go_wp2_with (first
      | (go_at_call 19; refine (RT.out _ B0.out).mono ?_; rintro e w1 ⟨rfl, b1⟩; have B1 := Lib.hid (B0.out.trans (b1.mono B0.out.size)); have KQ := Lib.hid (K0.out.below b1 K0.out.lt); have KR := Lib.hid (R0.out.below b1 R0.out.lt); have c1 : w1.cell? ⟨w.heap.size, 0, none⟩ = some (.slice a n c) := KQ.out.cell rfl; have r1 : w1.cell? ⟨w.heap.size + 1, 0, none⟩ = some (.slice none 0 0) := KR.out.cell rfl; have z1 := KR.out.frozen 0; have l1 := KR.out.lt; have l0 := KQ.out.lt; clear b1))
    have key : ∀ W : World, W.cell? ⟨w.heap.size + 1, 0, none⟩ = some (.slice none 0 0) → True := fun _ _ => trivial
    generalize hW9 : World.setCell w1 _ _ = W9
    have r9 : W9.cell? ⟨w.heap.size + 1, 0, none⟩ = some (.slice none 0 0) := by rw [← hW9]; exact (KR.out.set_ 0 _).cell rfl
    have b9 : Below w.heap.size w W9 := by rw [← hW9]; exact B1.out.setCell (p := ⟨w.heap.size + 1, 0, none⟩) (Nat.le_succ _) _
    refine bodyPost_ret (v := .tuple #[.agg #[.slice none 0 0], .int .i64 (r : Int)]) (by simp [results, Tryd.results17, go_sem, r9]) rfl ?_
    exact fin _ _ b9
  · subst h0
    have fin2 := fun w9 h => fin w9 2 h
    clear fin
    by_cases h1 : at_ < 0
    · have d1 : decide (at_ < 0) = true := by simpa using h1
      clear hat h1
      go_enter Tryd.func17, Tryd.ntmps17
      go_wp2_with (first
        | (go_at_call 19; refine (RT.out _ B0.out).mono ?_; rintro e w1 ⟨rfl, b1⟩; have B1 := Lib.hid (B0.out.trans (b1.mono B0.out.size)); have KQ := Lib.hid (K0.out.below b1 K0.out.lt); have KR := Lib.hid (R0.out.below b1 R0.out.lt); have c1 : w1.cell? ⟨w.heap.size, 0, none⟩ = some (.slice a n c) := KQ.out.cell rfl; have r1 : w1.cell? ⟨w.heap.size + 1, 0, none⟩ = some (.slice none 0 0) := KR.out.cell rfl; have z1 := KR.out.frozen 0; have l1 := KR.out.lt; have l0 := KQ.out.lt; clear b1))
      generalize hW9 : World.setCell w1 _ _ = W9
      have r9 : W9.cell? ⟨w.heap.size + 1, 0, none⟩ = some (.slice none 0 0) := by rw [← hW9]; exact (KR.out.set_ 0 _).cell rfl
      have b9 : Below w.heap.size w W9 := by rw [← hW9]; exact B1.out.setCell (p := ⟨w.heap.size + 1, 0, none⟩) (Nat.le_succ _) _
      refine bodyPost_ret (v := .tuple #[.agg #[.slice none 0 0], .int .i64 2]) (by simp [results, Tryd.results17, go_sem, r9]) rfl ?_
      exact fin2 _ b9
    · have h2 : (n : Int) ≤ at_ := by omega
      have d1 : decide (at_ < 0) = false := by simpa using h1
      have d2 : decide ((n : Int) ≤ at_) = true := by simpa using h2
      clear hat h1 h2
      go_enter Tryd.func17, Tryd.ntmps17
      go_wp2_with (first
        | (go_at_call 19; refine (RT.out _ B0.out).mono ?_; rintro e w1 ⟨rfl, b1⟩; have B1 := Lib.hid (B0.out.trans (b1.mono B0.out.size)); have KQ := Lib.hid (K0.out.below b1 K0.out.lt); have KR := Lib.hid (R0.out.below b1 R0.out.lt); have c1 : w1.cell? ⟨w.heap.size, 0, none⟩ = some (.slice a n c) := KQ.out.cell rfl; have r1 : w1.cell? ⟨w.heap.size + 1, 0, none⟩ = some (.slice none 0 0) := KR.out.cell rfl; have z1 := KR.out.frozen 0; have l1 := KR.out.lt; have l0 := KQ.out.lt; clear b1))
      generalize hW9 : World.setCell w1 _ _ = W9
      have r9 : W9.cell? ⟨w.heap.size + 1, 0, none⟩ = some (.slice none 0 0) := by rw [← hW9]; exact (KR.out.set_ 0 _).cell rfl
      have b9 : Below w.heap.size w W9 := by rw [← hW9]; exact B1.out.setCell (p := ⟨w.heap.size + 1, 0, none⟩) (Nat.le_succ _) _
      refine bodyPost_ret (v := .tuple #[.agg #[.slice none 0 0], .int .i64 2]) (by simp [results, Tryd.results17, go_sem, r9]) rfl ?_
      exact fin2 _ b9


set_option maxRecDepth 100000 in
set_option maxHeartbeats 8000000 in
/-- the tree below a node -/
theorem rpart_yes {t u : Tr} {v : Value} (ap : Nat) (hg : t.Good) (hsz : t.size ≤ 256) (hdp : t.deep ≤ 32) (hap : ap < t.size) (hu : subT t ap = some u) (w w0 : World) (hs : SlR w0 w0.heap.size 4 (ND.Is w0 w0.heap.size) v (ndsT t 0)) (hok : ∀ d ∈ ndsT t 0, NdOk d) (hw : Below w0.heap.size w0 w) :
    Calls Tryd.prog 17 #[.agg #[v], .int .i64 (ap : Int)] w (PartIs w (u.flat 0) 0) := by
  obtain ⟨l, hl⟩ : ∃ l, l = ndsT t 0 := ⟨_, rfl⟩
  have hr0 : rightE l = 0 := by rw [hl]; exact (right_of hg hsz hdp).1
  have hlen : l.length = t.size := by rw [hl, nds_len]
  obtain ⟨u', hu', su, _, _, hflat, _⟩ := sub_some t ap hap
  rw [hu] at hu'
  injection hu' with hu'
  subst hu'
  have hrep : Rep (t.flat 0) u ap := rep_flat u ap (by have := hflat 0; rwa [Nat.zero_add] at this)
  have hen : SlR w w.heap.size 4 (ENode.Is w w.heap.size) v (t.flat 0) := enOf ((((hs.below hw).more hw.size).imp (fun x y h => ND.more (ND.keep h hw) hw.size)))
  rw [← hl] at hs hok
  obtain ⟨a, c, rfl⟩ : ∃ a c, v = .slice a l.length c := by obtain ⟨a, c, h, _⟩ := hs.form; exact ⟨a, c, h⟩
  have hn63 : l.length ≤ 9223372036854775807 := by have := hs.caps; unfold maxLen at this; omega
  have RT := Lib.hid (fun Y (hY : Below w.heap.size w Y) => rright Y w0 hs hok (hw.trans (hY.mono hw.size)))
  have B0 : Hid (Below w.heap.size w ((w.alloc (.cells #[.slice a l.length c] 24)).alloc (.cells #[.slice none 0 0] 24))) := Lib.hid (((Below.refl _ _).alloc (Nat.le_refl _) _).alloc (by rw [World.size_alloc]; omega) _)
  have K0 : Hid (Blk ((w.alloc (.cells #[.slice a l.length c] 24)).alloc (.cells #[.slice none 0 0] 24)) w.heap.size 24 #[.slice a l.length c]) := Lib.hid ((Blk.new _ _ _).alloc _)
  have R0 : Hid (Blk ((w.alloc (.cells #[.slice a l.length c] 24)).alloc (.cells #[.slice none 0 0] 24)) (w.heap.size + 1) 24 #[.slice none 0 0]) := Lib.hid (Blk.new_ (by rw [World.size_alloc]) _ _)
  rw [hr0] at RT
  obtain ⟨n, hn⟩ : ∃ n, l.length = n := ⟨_, rfl⟩
  rw [hn] at hn63 B0 K0 R0 RT hlen hen ⊢
  have apn : ap < n := by omega
  have ORD := Lib.hid (fun (X : World) (hX : Below w.heap.size w X) => r_order X a n c (t.flat 0) (enRead hen hX) u.size u ap X (.slice none 0 0) [] (Nat.le_refl _) hrep (Below.refl _ _) (EL.nil X X.heap.size) (by simp; omega))
  have d1 : decide ((ap : Int) < 0) = false := by simp only [decide_eq_false_iff_not]; omega
  have d2 : decide ((n : Int) ≤ (ap : Int)) = false := by simp only [decide_eq_false_iff_not]; omega
  have d3 : decide (n ≤ ap) = false := by simp only [decide_eq_false_iff_not]; omega
  have a0 : (0 : Int) ≤ (ap : Int) := Int.natCast_nonneg _
  clear hs hok hw hg hsz hdp hap hu hl hr0 hlen su hflat hn hrep hen
  go_enter Tryd.func17, Tryd.ntmps17
  go_wp2_with (first
    | (go_at_call 19; refine (RT.out _ B0.out).mono ?_; rintro e w1 ⟨rfl, b1⟩; have B1 := Lib.hid (B0.out.trans (b1.mono B0.out.size)); have KQ := Lib.hid (K0.out.below b1 K0.out.lt); have KR := Lib.hid (R0.out.below b1 R0.out.lt); have c1 : w1.cell? ⟨w.heap.size, 0, none⟩ = some (.slice a n c) := KQ.out.cell (i := 0) rfl; have r1 : w1.cell? ⟨w.heap.size + 1, 0, none⟩ = some (.slice none 0 0) := KR.out.cell (i := 0) rfl; have z1 := KR.out.frozen 0; have l1 := KR.out.lt; have l0 := KQ.out.lt; clear b1)
    | (go_at_call 29; refine (ORD.out _ B1.out).mono ?_; rintro e w2 ⟨v2, es2, rfl, hE2, hm2, hb2, _⟩; obtain ⟨a2, c2, rfl⟩ := hE2.main.form; have E2 := Lib.hid hE2; have M2 := Lib.hid hm2; have B2 : Hid (Below w.heap.size w w2) := Lib.hid (B1.out.trans (hb2.mono B1.out.size)); have KR2 := Lib.hid (KR.out.below hb2 KR.out.lt); have r2 : w2.cell? ⟨w.heap.size + 1, 0, none⟩ = some (.slice none 0 0) := KR2.out.cell (i := 0) rfl; have z2 := KR2.out.frozen 0; have l2 := KR2.out.lt; have B12 := Lib.hid hb2; have S1 : Hid (w.heap.size + 1 < w1.heap.size) := Lib.hid KR.out.lt; clear hE2 hm2 hb2))
  generalize hW9 : World.setCell w2 _ _ = W9
  have r9 : W9.cell? ⟨w.heap.size + 1, 0, none⟩ = some (.slice a2 es2.length c2) := by rw [← hW9]; exact (KR2.out.set_ 0 _).cell rfl
  have b9 : Below w.heap.size w W9 := by rw [← hW9]; exact B2.out.setCell (p := ⟨w.heap.size + 1, 0, none⟩) (Nat.le_succ _) _
  have e9 : EL W9 w1.heap.size (.slice a2 es2.length c2) es2 := by rw [← hW9]; exact E2.out.setLow (p := ⟨w.heap.size + 1, 0, none⟩) S1.out _
  refine bodyPost_ret (v := .tuple #[.agg #[.slice a2 es2.length c2], .int .i64 0]) (by simp [results, Tryd.results17, go_sem, r9]) rfl ?_
  refine ⟨_, rfl, ?_, b9⟩
  have := e9.read
  rw [M2.out] at this
  exact this
end Go.Proofs.YtlenenfgedgmhaaDoor
