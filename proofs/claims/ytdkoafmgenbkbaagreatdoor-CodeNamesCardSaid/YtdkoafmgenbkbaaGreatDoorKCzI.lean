/- - -/
import Derived.Test.YtdkoafmgenbkbaaGreatDoorKM9
set_option maxRecDepth 100000
set_option maxHeartbeats 32000000
set_option linter.unusedSimpArgs false
set_option linter.unusedVariables false
namespace Go.Proofs.YtdkoafmgenbkbaaGreatDoor
open Go.RowKit
def varD (d : ND) : Bool := decide (d.kind = 7 ∨ (31 ≤ d.kind ∧ d.kind ≤ 34))
theorem rnD_no {a b : List Nat} {d : ND} (h : varD d = false) : rnD a b d = d := by
  unfold rnD
  rw [if_neg (fun h2 => by unfold varD at h; rw [decide_eq_true h2.1] at h; cases h)]
theorem rnD_other {a b : List Nat} {d : ND} (h : d.text ≠ a) : rnD a b d = d := by
  unfold rnD
  rw [if_neg (fun h2 => h h2.2)]
theorem rnD_yes {a b : List Nat} {d : ND} (h : varD d = true) (h2 : d.text = a) : rnD a b d = ⟨d.kind, b, d.num, d.kids⟩ := by
  unfold rnD
  rw [if_pos ⟨of_decide_eq_true h, h2⟩]
theorem nd_imp {W w : World} {v : Value} {l : List ND} {B : Nat} (h : SlR W B 4 (ND.Is w w.heap.size) v l) (hb : Below w.heap.size w W) (hB : B ≤ W.heap.size) : SlR W W.heap.size 4 (ND.Is W W.heap.size) v l :=
  (h.imp (fun x d hd => ND.more (ND.keep hd hb) hb.size)).more hB
theorem NdIs_one {w : World} {B : Nat} : ∀ x d, ND.Is w B x d → ∀ u ∈ x, u.oneCell' = true := by
  intro x d h u hu
  obtain ⟨kv, rfl, hk⟩ := h
  obtain ⟨a, c, rfl, _⟩ := hk.form
  simp at hu
  rcases hu with rfl | rfl | rfl | rfl <;> rfl
theorem names_walk {l : List ND} {v : Value} (w : World) (hs : SlR w w.heap.size 4 (ND.Is w w.heap.size) v l) (hv : AllV w) (hok : ∀ d ∈ l, NdOk d) (hfit : l.length * 56 ≤ 140737488355328) (na nb : List Nat) (hna : Bytes na) (hnb : Bytes nb ∧ nb.length ≤ 140737488355328) : Calls Tryz.prog 5 #[.agg #[v], .string (txt na), .string (txt nb)] w fun e w' => e = .returned (.bool true) ∧ Below w.heap.size w w' := by
  obtain ⟨a, c, rfl⟩ : ∃ a c, v = .slice a (l).length c := by obtain ⟨a, c, h, _⟩ := hs.form; exact ⟨a, c, h⟩
  obtain ⟨n, hn⟩ : ∃ n, (l).length = n := ⟨_, rfl⟩
  rw [hn] at hs ⊢
  have hb : Below w.heap.size w (w.alloc (.cells #[.slice a n c] 37)) := zB.alloc zL _
  have AW := zH (awake_any (w.alloc (.cells #[.slice a n c] 37)) (hv.below hb))
  have KE : Hid (Blk (w.alloc (.cells #[.slice a n c] 37)) w.heap.size 37 #[.slice a n c]) := zH (Blk.new _ _ _)
  have HB := zH hb
  have HN := zH hn
  have HOK := zH hok
  have HV := zH hv
  have HS := zH hs
  have HNA := zH hna
  have HNB0 := zH hnb
  have n1000 : n * 56 ≤ 140737488355328 := by rw [← hn]; exact hfit
  obtain ⟨jE, hi, hz, hs2, hby⟩ := info_parts info_enode
  have IE := zH (And.intro hi (And.intro hz (And.intro hs2 hby)))
  clear hi hz hs2 hby hs hv hn hb hna hnb hok hfit
  go_enter Tryz.func5, Tryz.ntmps5
  go_upto_region 5 with (first
    | (go_at_call 7; go_must (refine AW.out.mono ?_); rintro e w1 ⟨rfl, b1⟩
       go_must (have B1 := zH (HB.out.trans (b1.mono HB.out.size)))
       go_must (have K1 := zH (KE.out.below b1 KE.out.lt))
       have e1 : w1.cell? ⟨w.heap.size, 0, none⟩ = some (.slice a n c) := K1.out.cell rfl
       have l1 : w.heap.size < w1.heap.size := K1.out.lt
       clear b1)
    | fail)
  clear e1 l1
  have KG : Hid (Blk (w1.alloc (.cells #[.slice none 0 0] 37)) w1.heap.size 37 #[.slice none 0 0]) := zH (Blk.new _ _ _)
  have KE4 : Hid (Blk (w1.alloc (.cells #[.slice none 0 0] 37)) w.heap.size 37 #[.slice a n c]) := zH (K1.out.alloc _)
  have B4 : Hid (Below w.heap.size w (w1.alloc (.cells #[.slice none 0 0] 37))) := zH (B1.out.alloc B1.out.size _)
  generalize hW4 : w1.alloc (.cells #[.slice none 0 0] 37) = W4 at *
  clear hW4
  obtain ⟨gb, hgb⟩ : ∃ z, w1.heap.size = z := ⟨_, rfl⟩
  rw [hgb] at KG ⊢
  obtain ⟨eb, heb⟩ : ∃ z, w.heap.size = z := ⟨_, rfl⟩
  have HGB : Hid (w.heap.size = eb ∧ eb < gb) := zH ⟨heb, by have := K1.out.lt; omega⟩
  have KE4' : Hid (Blk W4 eb 37 #[.slice a n c]) := zH (heb ▸ KE4.out)
  rw [heb]
  clear hgb heb KE4
  go_loopw [8, 9] (fun v8 _ wr => ∃ (j : Nat) (ga : Option Addr) (gc : Nat), j ≤ n ∧ v8 = .int .i64 (j : Int) ∧ Hid (Blk wr gb 37 #[.slice ga j gc] ∧ Own1 wr (gb + 1) 45 4 (ND.Is w w.heap.size) (.slice ga j gc) ((l.take j).map (rnD na nb)) ∧ (∀ d ∈ l.take j, varD d = true → d.text ≠ nb) ∧ Blk wr eb 37 #[.slice a n c] ∧ Below w.heap.size w wr)) (fun v8 _ _ => n - (intOf v8).toNat)
  case atStart => exact ⟨0, none, 0, Nat.zero_le _, rfl, zH ⟨KG.out, ⟨[], ⟨rfl, .inl ⟨rfl, rfl⟩⟩, FlatR.nil_⟩, fun d hd => by simp at hd, KE4'.out, B4.out⟩⟩
  case round =>
    obtain ⟨j, ga, gc, hj, rfl, hr⟩ := hrel
    obtain ⟨wo, hwo⟩ : ∃ W, W = wr := ⟨wr, rfl⟩
    subst hwo
    have KG1 := zH hr.out.1
    have OW := zH hr.out.2.1
    have HNO := zH hr.out.2.2.1
    have KE1 := zH hr.out.2.2.2.1
    have B1 := zH hr.out.2.2.2.2
    clear hr KG KE4' B4
    have e1 : wo.cell? ⟨eb, 0, none⟩ = some (.slice a n c) := KE1.out.cell rfl
    have lE1 : eb < wo.heap.size := KE1.out.lt
    have lg1 : gb < wo.heap.size := KG1.out.lt
    have j0 : (0 : Int) ≤ (j : Int) := Int.natCast_nonneg _
    by_cases hlt : j < n
    · obtain ⟨d, hd⟩ := get_some HN.out hlt
      obtain ⟨bN, off, x, rfl, hbN, _, ⟨kv, rfl, hks⟩, hx⟩ := HS.out.at_ hd
      obtain ⟨ka, kc, rfl, _⟩ := hks.form
      have hok := HOK.out d (List.mem_iff_getElem?.2 ⟨j, hd⟩)
      obtain ⟨kn, hkn⟩ : ∃ z, d.kids.length = z := ⟨_, rfl⟩
      rw [hkn] at hks hx
      have y0 := (B1.out.cell (p := ⟨bN, off + j * 4, none⟩) hbN).trans (hx 0 _ rfl)
      have y1 := (B1.out.cell (p := ⟨bN, off + j * 4 + 1, none⟩) hbN).trans (hx 1 _ rfl)
      have y2 := (B1.out.cell (p := ⟨bN, off + j * 4 + 2, none⟩) hbN).trans (hx 2 _ rfl)
      have y3 := (B1.out.cell (p := ⟨bN, off + j * 4 + 3, none⟩) hbN).trans (hx 3 _ rfl)
      have lbN : bN < wo.heap.size := Nat.lt_of_lt_of_le hbN B1.out.size
      have HKS := zH hks
      have HTX := zH hok
      have HTK : Hid (((l.take j).map (rnD na nb)).length = j ∧ (l.take (j + 1)).map (rnD na nb) = (l.take j).map (rnD na nb) ++ [rnD na nb d] ∧ l.take (j + 1) = l.take j ++ [d]) := zH ⟨by rw [List.length_map, List.length_take, HN.out, Nat.min_eq_left hj], by rw [take_snoc1 hd, List.map_append]; rfl, take_snoc1 hd⟩
      have HLT := zH hlt
      have jn : (j : Int) < (n : Int) := by omega
      have jnd : decide (j < n) = true := decide_eq_true hlt
      clear hd hks hok hkn hx hlt hbN
      go_upto_region 8 with fail
      have KQ : Hid (Blk (wo.alloc (.cells #[.int .i64 d.kind, .string (txt d.text), .int .i64 d.num, .slice ka kn kc] 45)) wo.heap.size 45 #[.int .i64 d.kind, .string (txt d.text), .int .i64 d.num, .slice ka kn kc]) := zH (Blk.new _ _ _)
      have BW2 : Hid (Below wo.heap.size wo (wo.alloc (.cells #[.int .i64 d.kind, .string (txt d.text), .int .i64 d.num, .slice ka kn kc] 45))) := zH (zB.alloc zL _)
      generalize hW2 : wo.alloc (.cells #[.int .i64 d.kind, .string (txt d.text), .int .i64 d.num, .slice ka kn kc] 45) = W2 at *
      clear hW2
      obtain ⟨q, hq⟩ : ∃ z, wo.heap.size = z := ⟨_, rfl⟩
      have HQ := zH hq
      have lgq : gb < q := by omega
      rw [hq] at KQ ⊢
      clear hq e1 y0 y1 y2 y3
      have q0 : W2.cell? ⟨q, 0, none⟩ = some (.int .i64 d.kind) := KQ.out.cell (i := 0) rfl
      have q1 : W2.cell? ⟨q, 1, none⟩ = some (.string (txt d.text)) := KQ.out.cell (i := 1) rfl
      have q2 : W2.cell? ⟨q, 2, none⟩ = some (.int .i64 d.num) := KQ.out.cell (i := 2) rfl
      have q3 : W2.cell? ⟨q, 3, none⟩ = some (.slice ka kn kc) := KQ.out.cell (i := 3) rfl
      have lq := KQ.out.lt
      obtain ⟨vb, hvb⟩ : ∃ z, varD d = z := ⟨_, rfl⟩
      have HVB := zH hvb
      have HVD : Hid (decide (d.kind = 7 ∨ (31 ≤ d.kind ∧ d.kind ≤ 34)) = vb) := zH hvb
      have tok1 : True := trivial
      have tok2 : True := trivial
      have BW2w := BW2
      cases vb
      · have HRN : Hid (rnD na nb d = d) := zH (rnD_no hvb)
        clear hvb
        go_upto_region 12 with (first
          | (have _t := tok1; go_at_call 14; go_must (refine (named_any d.kind (txt d.text) d.num ka kn kc W2).mono ?_); clear tok1 _t
             rintro e X1 ⟨rfl, bx⟩
             rw [HVD.out]
             have KX1 := zH (KQ.out.below bx KQ.out.lt)
             have BX1 := zH bx
             clear q0 q1 q2 q3 lq
             have q0 : X1.cell? ⟨q, 0, none⟩ = some (.int .i64 d.kind) := KX1.out.cell (i := 0) rfl
             have q1 : X1.cell? ⟨q, 1, none⟩ = some (.string (txt d.text)) := KX1.out.cell (i := 1) rfl
             have q2 : X1.cell? ⟨q, 2, none⟩ = some (.int .i64 d.num) := KX1.out.cell (i := 2) rfl
             have q3 : X1.cell? ⟨q, 3, none⟩ = some (.slice ka kn kc) := KX1.out.cell (i := 3) rfl
             have lq := KX1.out.lt
             clear bx)
          | (have _t := tok2; go_at_call 14; go_must (refine (named_any d.kind (txt d.text) d.num ka kn kc X1).mono ?_); clear tok2 _t
             rintro e X2 ⟨rfl, bx⟩
             rw [HVD.out]
             have KX2 := zH (KX1.out.below bx KX1.out.lt)
             have BX2 := zH (BX1.out.trans (bx.mono BX1.out.size))
             clear q0 q1 q2 q3 lq
             have q0 : X2.cell? ⟨q, 0, none⟩ = some (.int .i64 d.kind) := KX2.out.cell (i := 0) rfl
             have q1 : X2.cell? ⟨q, 1, none⟩ = some (.string (txt d.text)) := KX2.out.cell (i := 1) rfl
             have q2 : X2.cell? ⟨q, 2, none⟩ = some (.int .i64 d.num) := KX2.out.cell (i := 2) rfl
             have q3 : X2.cell? ⟨q, 3, none⟩ = some (.slice ka kn kc) := KX2.out.cell (i := 3) rfl
             have lq := KX2.out.lt
             have g2 : X2.cell? ⟨gb, 0, none⟩ = some (.slice ga j gc) := (KG1.out.below (BW2.out.trans (BX2.out.mono BW2.out.size)) lg1).cell rfl
             have lg2 : gb < X2.heap.size := (KG1.out.below (BW2.out.trans (BX2.out.mono BW2.out.size)) lg1).lt
             have zq := KX2.out.frozen 1
             clear bx)
          | fail)
        have KGX := zH (KG1.out.below (BW2.out.trans (BX2.out.mono BW2.out.size)) lg1)
        have BXO := zH (BW2.out.trans (BX2.out.mono BW2.out.size))
        have OWX := zH (OW.out.below BXO.out zL)
        go_wp2_with (first
          | (at_builtin
             go_must (refine wpList_append_list rfl (.tmp 48) (.tmp 50) _ (by rfl) (gb + 1) (X2.heap.size + 1) 45 jE _ 4 56 Tryz.underlying35 IE.out.1 IE.out.2.1 IE.out.2.2.1 IE.out.2.2.2 rfl (by omega) (R := ND.Is w w.heap.size) (l := (l.take j).map (rnD na nb)) (m := [(rnD na nb d)]) (.slice ga j gc) (by rfl) (by exact OWX.out.alloc (.cells #[.int .i64 d.kind, .string (txt d.text), .int .i64 d.num, .slice ka kn kc] 45)) (some ⟨X2.heap.size, 0, none⟩) 1 1 (by rfl) (SlR.new1 (w := X2) (e := 45) (g := X2.heap.size) rfl (x := [.int .i64 d.kind, .string (txt d.text), .int .i64 d.num, .slice ka kn kc]) rfl (R := ND.Is w w.heap.size) (y := (rnD na nb d)) ⟨_, by rw [HRN.out], by rw [HRN.out]; exact HKS.out⟩) (j + 1) (by rw [HTK.out.1]) NdIs_one (by have := HTK.out.1; unfold maxLen; simp only [List.length_map, List.length_cons, List.length_nil] at this ⊢; omega) (by have := HTK.out.1; simp at this ⊢; omega) (by simp; omega) ?_)
             intro xa xc w5 hown hgr
             have O5 := zH (And.intro hown hgr)
             go_must (have K5 := zH (((KGX.out.alloc (.cells #[.int .i64 d.kind, .string (txt d.text), .int .i64 d.num, .slice ka kn kc] 45)).grown hgr (fun e => by have := (OW.out.block gb e.symm).1; omega))))
             have m5 : w5.cell? ⟨gb, 0, none⟩ = some (.slice ga j gc) := K5.out.cell rfl
             have z5 := K5.out.frozen 0
             have l5 := K5.out.lt
             clear hown hgr)
          | fail)
        go_roundw
        case rel => exact ⟨j + 1, xa, xc, HLT.out, by go_num, zH ⟨K5.out.set_ 0 _, by rw [HTK.out.2.1]; exact O5.out.1.setFar (p := ⟨gb, 0, none⟩) (Nat.lt_succ_self _) _, (fun d' hd' hv' => by rw [HTK.out.2.2] at hd'; rcases List.mem_append.1 hd' with h | h; exact HNO.out d' h hv'; (simp at h; subst h; rw [HVB.out] at hv'; cases hv')), ((KE1.out.below BXO.out lE1).alloc _ |>.grown O5.out.2 (fun e => by have := (OW.out.block eb e.symm).1; have := HGB.out; omega)).far (by show eb ≠ gb; have := HGB.out; omega) _, (((B1.out.trans (BXO.out.mono B1.out.size)).alloc (by have := B1.out.size; have := BXO.out.size; omega) _).grown O5.out.2 (by have := B1.out.size; have := BXO.out.size; simp; omega) (fun b hb => by have := (OW.out.block b hb).1; have := HGB.out; omega)).setCell (p := ⟨gb, 0, none⟩) (by show w.heap.size ≤ gb; have := HGB.out; omega) _⟩⟩
        case measure => simp [intOf]; have := HLT.out; omega
      · by_cases htb : d.text = nb
        · have et : ((txt d.text).toList == (txt nb).toList) = true := by rw [htb]; simp
          clear hvb htb
          go_wp2_with (first
            | (have _t := tok1; go_at_call 14; go_must (refine (named_any d.kind (txt d.text) d.num ka kn kc W2).mono ?_); clear tok1 _t
               rintro e X1 ⟨rfl, bx⟩
               rw [HVD.out]
               have KX1 := zH (KQ.out.below bx KQ.out.lt)
               have BX1 := zH bx
               clear q0 q1 q2 q3 lq
               have q0 : X1.cell? ⟨q, 0, none⟩ = some (.int .i64 d.kind) := KX1.out.cell (i := 0) rfl
               have q1 : X1.cell? ⟨q, 1, none⟩ = some (.string (txt d.text)) := KX1.out.cell (i := 1) rfl
               have q2 : X1.cell? ⟨q, 2, none⟩ = some (.int .i64 d.num) := KX1.out.cell (i := 2) rfl
               have q3 : X1.cell? ⟨q, 3, none⟩ = some (.slice ka kn kc) := KX1.out.cell (i := 3) rfl
               have lq := KX1.out.lt
               clear bx)
            | fail)
          go_ret
          exact ⟨rfl, B1.out.trans ((BW2.out.trans (BX1.out.mono BW2.out.size)).mono B1.out.size)⟩
        · have et : ((txt d.text).toList == (txt nb).toList) = false := by rw [txt_eq HTX.out.1 HNB0.out.1]; exact decide_eq_false htb
          have HNB := zH htb
          by_cases hta : d.text = na
          · have ea : ((txt d.text).toList == (txt na).toList) = true := by rw [hta]; simp
            have HRN : Hid (rnD na nb d = ⟨d.kind, nb, d.num, d.kids⟩) := zH (rnD_yes hvb hta)
            clear hvb htb hta
            go_upto_region 12 with (first
              | (have _t := tok1; go_at_call 14; go_must (refine (named_any d.kind (txt d.text) d.num ka kn kc W2).mono ?_); clear tok1 _t
                 rintro e X1 ⟨rfl, bx⟩
                 rw [HVD.out]
                 have KX1 := zH (KQ.out.below bx KQ.out.lt)
                 have BX1 := zH bx
                 clear q0 q1 q2 q3 lq
                 have q0 : X1.cell? ⟨q, 0, none⟩ = some (.int .i64 d.kind) := KX1.out.cell (i := 0) rfl
                 have q1 : X1.cell? ⟨q, 1, none⟩ = some (.string (txt d.text)) := KX1.out.cell (i := 1) rfl
                 have q2 : X1.cell? ⟨q, 2, none⟩ = some (.int .i64 d.num) := KX1.out.cell (i := 2) rfl
                 have q3 : X1.cell? ⟨q, 3, none⟩ = some (.slice ka kn kc) := KX1.out.cell (i := 3) rfl
                 have lq := KX1.out.lt
                 clear bx)
              | (have _t := tok2; go_at_call 14; go_must (refine (named_any d.kind (txt d.text) d.num ka kn kc X1).mono ?_); clear tok2 _t
                 rintro e X2 ⟨rfl, bx⟩
                 rw [HVD.out]
                 have KX2 := zH (KX1.out.below bx KX1.out.lt)
                 have BX2 := zH (BX1.out.trans (bx.mono BX1.out.size))
                 clear q0 q1 q2 q3 lq
                 have q0 : X2.cell? ⟨q, 0, none⟩ = some (.int .i64 d.kind) := KX2.out.cell (i := 0) rfl
                 have q1 : X2.cell? ⟨q, 1, none⟩ = some (.string (txt d.text)) := KX2.out.cell (i := 1) rfl
                 have q2 : X2.cell? ⟨q, 2, none⟩ = some (.int .i64 d.num) := KX2.out.cell (i := 2) rfl
                 have q3 : X2.cell? ⟨q, 3, none⟩ = some (.slice ka kn kc) := KX2.out.cell (i := 3) rfl
                 have lq := KX2.out.lt
                 have g2 : X2.cell? ⟨gb, 0, none⟩ = some (.slice ga j gc) := (KG1.out.below (BW2.out.trans (BX2.out.mono BW2.out.size)) lg1).cell rfl
                 have lg2 : gb < X2.heap.size := (KG1.out.below (BW2.out.trans (BX2.out.mono BW2.out.size)) lg1).lt
                 have zq := KX2.out.frozen 1
                 clear bx)
              | fail)
            have KQ3 : Hid (Blk (X2.setCell ⟨q, 1, none⟩ (.string (txt nb))) q 45 #[.int .i64 d.kind, .string (txt nb), .int .i64 d.num, .slice ka kn kc]) := zH (KX2.out.set_ 1 _)
            have KGX : Hid (Blk (X2.setCell ⟨q, 1, none⟩ (.string (txt nb))) gb 37 #[.slice ga j gc]) := zH ((KG1.out.below (BW2.out.trans (BX2.out.mono BW2.out.size)) lg1).far (p := ⟨q, 1, none⟩) (Nat.ne_of_lt lgq) _)
            have BXO : Hid (Below wo.heap.size wo (X2.setCell ⟨q, 1, none⟩ (.string (txt nb)))) := zH ((BW2.out.trans (BX2.out.mono BW2.out.size)).setCell (p := ⟨q, 1, none⟩) (by rw [HQ.out]; exact Nat.le_refl _) _)
            have OWX : Hid (Own1 (X2.setCell ⟨q, 1, none⟩ (.string (txt nb))) (gb + 1) 45 4 (ND.Is w w.heap.size) (.slice ga j gc) ((l.take j).map (rnD na nb))) := zH (OW.out.below BXO.out zL)
            generalize hW3 : X2.setCell ⟨q, 1, none⟩ (.string (txt nb)) = W3 at *
            clear hW3 q0 q1 q2 q3 zq lq g2 lg2
            have q0 : W3.cell? ⟨q, 0, none⟩ = some (.int .i64 d.kind) := KQ3.out.cell (i := 0) rfl
            have q1 : W3.cell? ⟨q, 1, none⟩ = some (.string (txt nb)) := KQ3.out.cell (i := 1) rfl
            have q2 : W3.cell? ⟨q, 2, none⟩ = some (.int .i64 d.num) := KQ3.out.cell (i := 2) rfl
            have q3 : W3.cell? ⟨q, 3, none⟩ = some (.slice ka kn kc) := KQ3.out.cell (i := 3) rfl
            have lq := KQ3.out.lt
            have g2 : W3.cell? ⟨gb, 0, none⟩ = some (.slice ga j gc) := KGX.out.cell rfl
            have lg2 : gb < W3.heap.size := KGX.out.lt
            go_wp2_with (first
              | (at_builtin
                 go_must (refine wpList_append_list rfl (.tmp 48) (.tmp 50) _ (by rfl) (gb + 1) (W3.heap.size + 1) 45 jE _ 4 56 Tryz.underlying35 IE.out.1 IE.out.2.1 IE.out.2.2.1 IE.out.2.2.2 rfl (by omega) (R := ND.Is w w.heap.size) (l := (l.take j).map (rnD na nb)) (m := [(rnD na nb d)]) (.slice ga j gc) (by rfl) (by exact OWX.out.alloc (.cells #[.int .i64 d.kind, .string (txt nb), .int .i64 d.num, .slice ka kn kc] 45)) (some ⟨W3.heap.size, 0, none⟩) 1 1 (by rfl) (SlR.new1 (w := W3) (e := 45) (g := W3.heap.size) rfl (x := [.int .i64 d.kind, .string (txt nb), .int .i64 d.num, .slice ka kn kc]) rfl (R := ND.Is w w.heap.size) (y := (rnD na nb d)) ⟨_, by rw [HRN.out], by rw [HRN.out]; exact HKS.out⟩) (j + 1) (by rw [HTK.out.1]) NdIs_one (by have := HTK.out.1; unfold maxLen; simp only [List.length_map, List.length_cons, List.length_nil] at this ⊢; omega) (by have := HTK.out.1; simp at this ⊢; omega) (by simp; omega) ?_)
                 intro xa xc w5 hown hgr
                 have O5 := zH (And.intro hown hgr)
                 go_must (have K5 := zH (((KGX.out.alloc (.cells #[.int .i64 d.kind, .string (txt nb), .int .i64 d.num, .slice ka kn kc] 45)).grown hgr (fun e => by have := (OW.out.block gb e.symm).1; omega))))
                 have m5 : w5.cell? ⟨gb, 0, none⟩ = some (.slice ga j gc) := K5.out.cell rfl
                 have z5 := K5.out.frozen 0
                 have l5 := K5.out.lt
                 clear hown hgr)
              | fail)
            go_roundw
            case rel => exact ⟨j + 1, xa, xc, HLT.out, by go_num, zH ⟨K5.out.set_ 0 _, by rw [HTK.out.2.1]; exact O5.out.1.setFar (p := ⟨gb, 0, none⟩) (Nat.lt_succ_self _) _, (fun d' hd' hv' => by rw [HTK.out.2.2] at hd'; rcases List.mem_append.1 hd' with h | h; exact HNO.out d' h hv'; (simp at h; subst h; exact HNB.out)), ((KE1.out.below BXO.out lE1).alloc _ |>.grown O5.out.2 (fun e => by have := (OW.out.block eb e.symm).1; have := HGB.out; omega)).far (by show eb ≠ gb; have := HGB.out; omega) _, (((B1.out.trans (BXO.out.mono B1.out.size)).alloc (by have := B1.out.size; have := BXO.out.size; omega) _).grown O5.out.2 (by have := B1.out.size; have := BXO.out.size; simp; omega) (fun b hb => by have := (OW.out.block b hb).1; have := HGB.out; omega)).setCell (p := ⟨gb, 0, none⟩) (by show w.heap.size ≤ gb; have := HGB.out; omega) _⟩⟩
            case measure => simp [intOf]; have := HLT.out; omega
          · have ea : ((txt d.text).toList == (txt na).toList) = false := by rw [txt_eq HTX.out.1 HNA.out]; exact decide_eq_false hta
            have HRN : Hid (rnD na nb d = d) := zH (rnD_other hta)
            clear hvb htb hta
            go_upto_region 12 with (first
              | (have _t := tok1; go_at_call 14; go_must (refine (named_any d.kind (txt d.text) d.num ka kn kc W2).mono ?_); clear tok1 _t
                 rintro e X1 ⟨rfl, bx⟩
                 rw [HVD.out]
                 have KX1 := zH (KQ.out.below bx KQ.out.lt)
                 have BX1 := zH bx
                 clear q0 q1 q2 q3 lq
                 have q0 : X1.cell? ⟨q, 0, none⟩ = some (.int .i64 d.kind) := KX1.out.cell (i := 0) rfl
                 have q1 : X1.cell? ⟨q, 1, none⟩ = some (.string (txt d.text)) := KX1.out.cell (i := 1) rfl
                 have q2 : X1.cell? ⟨q, 2, none⟩ = some (.int .i64 d.num) := KX1.out.cell (i := 2) rfl
                 have q3 : X1.cell? ⟨q, 3, none⟩ = some (.slice ka kn kc) := KX1.out.cell (i := 3) rfl
                 have lq := KX1.out.lt
                 clear bx)
              | (have _t := tok2; go_at_call 14; go_must (refine (named_any d.kind (txt d.text) d.num ka kn kc X1).mono ?_); clear tok2 _t
                 rintro e X2 ⟨rfl, bx⟩
                 rw [HVD.out]
                 have KX2 := zH (KX1.out.below bx KX1.out.lt)
                 have BX2 := zH (BX1.out.trans (bx.mono BX1.out.size))
                 clear q0 q1 q2 q3 lq
                 have q0 : X2.cell? ⟨q, 0, none⟩ = some (.int .i64 d.kind) := KX2.out.cell (i := 0) rfl
                 have q1 : X2.cell? ⟨q, 1, none⟩ = some (.string (txt d.text)) := KX2.out.cell (i := 1) rfl
                 have q2 : X2.cell? ⟨q, 2, none⟩ = some (.int .i64 d.num) := KX2.out.cell (i := 2) rfl
                 have q3 : X2.cell? ⟨q, 3, none⟩ = some (.slice ka kn kc) := KX2.out.cell (i := 3) rfl
                 have lq := KX2.out.lt
                 have g2 : X2.cell? ⟨gb, 0, none⟩ = some (.slice ga j gc) := (KG1.out.below (BW2.out.trans (BX2.out.mono BW2.out.size)) lg1).cell rfl
                 have lg2 : gb < X2.heap.size := (KG1.out.below (BW2.out.trans (BX2.out.mono BW2.out.size)) lg1).lt
                 have zq := KX2.out.frozen 1
                 clear bx)
              | fail)
            have KGX := zH (KG1.out.below (BW2.out.trans (BX2.out.mono BW2.out.size)) lg1)
            have BXO := zH (BW2.out.trans (BX2.out.mono BW2.out.size))
            have OWX := zH (OW.out.below BXO.out zL)
            go_wp2_with (first
              | (at_builtin
                 go_must (refine wpList_append_list rfl (.tmp 48) (.tmp 50) _ (by rfl) (gb + 1) (X2.heap.size + 1) 45 jE _ 4 56 Tryz.underlying35 IE.out.1 IE.out.2.1 IE.out.2.2.1 IE.out.2.2.2 rfl (by omega) (R := ND.Is w w.heap.size) (l := (l.take j).map (rnD na nb)) (m := [(rnD na nb d)]) (.slice ga j gc) (by rfl) (by exact OWX.out.alloc (.cells #[.int .i64 d.kind, .string (txt d.text), .int .i64 d.num, .slice ka kn kc] 45)) (some ⟨X2.heap.size, 0, none⟩) 1 1 (by rfl) (SlR.new1 (w := X2) (e := 45) (g := X2.heap.size) rfl (x := [.int .i64 d.kind, .string (txt d.text), .int .i64 d.num, .slice ka kn kc]) rfl (R := ND.Is w w.heap.size) (y := (rnD na nb d)) ⟨_, by rw [HRN.out], by rw [HRN.out]; exact HKS.out⟩) (j + 1) (by rw [HTK.out.1]) NdIs_one (by have := HTK.out.1; unfold maxLen; simp only [List.length_map, List.length_cons, List.length_nil] at this ⊢; omega) (by have := HTK.out.1; simp at this ⊢; omega) (by simp; omega) ?_)
                 intro xa xc w5 hown hgr
                 have O5 := zH (And.intro hown hgr)
                 go_must (have K5 := zH (((KGX.out.alloc (.cells #[.int .i64 d.kind, .string (txt d.text), .int .i64 d.num, .slice ka kn kc] 45)).grown hgr (fun e => by have := (OW.out.block gb e.symm).1; omega))))
                 have m5 : w5.cell? ⟨gb, 0, none⟩ = some (.slice ga j gc) := K5.out.cell rfl
                 have z5 := K5.out.frozen 0
                 have l5 := K5.out.lt
                 clear hown hgr)
              | fail)
            go_roundw
            case rel => exact ⟨j + 1, xa, xc, HLT.out, by go_num, zH ⟨K5.out.set_ 0 _, by rw [HTK.out.2.1]; exact O5.out.1.setFar (p := ⟨gb, 0, none⟩) (Nat.lt_succ_self _) _, (fun d' hd' hv' => by rw [HTK.out.2.2] at hd'; rcases List.mem_append.1 hd' with h | h; exact HNO.out d' h hv'; (simp at h; subst h; exact HNB.out)), ((KE1.out.below BXO.out lE1).alloc _ |>.grown O5.out.2 (fun e => by have := (OW.out.block eb e.symm).1; have := HGB.out; omega)).far (by show eb ≠ gb; have := HGB.out; omega) _, (((B1.out.trans (BXO.out.mono B1.out.size)).alloc (by have := B1.out.size; have := BXO.out.size; omega) _).grown O5.out.2 (by have := B1.out.size; have := BXO.out.size; simp; omega) (fun b hb => by have := (OW.out.block b hb).1; have := HGB.out; omega)).setCell (p := ⟨gb, 0, none⟩) (by show w.heap.size ≤ gb; have := HGB.out; omega) _⟩⟩
            case measure => simp [intOf]; have := HLT.out; omega
    · have hjn : j = n := by omega
      have d1 : decide ((j : Int) < (n : Int)) = false := by rw [hjn]; simp
      have d2 : decide (j < n) = false := by rw [hjn]; simp
      have hall : l.take j = l := List.take_of_length_le (by rw [HN.out, hjn]; exact Nat.le_refl _)
      rw [hall] at OW HNO
      rw [hjn] at OW KG1
      have hg1 : wo.cell? ⟨gb, 0, none⟩ = some (.slice ga n gc) := KG1.out.cell rfl
      have hrd := nd_imp (OW.out.read (by decide)) B1.out zL
      have SR := zH hrd
      have VX := zH (HV.out.below B1.out)
      have hok2 : ∀ d ∈ l.map (rnD na nb), NdOk d := by
        intro d hd
        obtain ⟨d0, h0, rfl⟩ := List.mem_map.1 hd
        have h1 := HOK.out d0 h0
        unfold rnD
        split
        · exact ⟨HNB0.out.1, HNB0.out.2, h1.2.2⟩
        · exact h1
      have C1 := zH (fun W (hW : Below w.heap.size w W) => compile_any W w HS.out HOK.out HV.out hW)
      have C2 := zH (fun W (hW : Below wo.heap.size wo W) => compile_any W wo SR.out hok2 VX.out hW)
      have LAWN := zH (fun c1 c2 => names_law (a := na) (b := nb) (c1 := c1) (c2 := c2) HOK.out HNB0.out (fun d hd h => HNO.out d hd (by unfold varD; exact decide_eq_true h)))
      obtain ⟨r1, hr1⟩ : ∃ z, rightE l = z := ⟨_, rfl⟩
      obtain ⟨r2, hr2⟩ : ∃ z, rightE (l.map (rnD na nb)) = z := ⟨_, rfl⟩
      rw [hr1] at C1 LAWN
      rw [hr2] at C2 LAWN
      clear hlt hjn hall hj hrd hok2 hr1 hr2
      go_upto_region 15 with (first
        | (have _t := hg1; go_at_call 12; go_must (refine (C1.out wo B1.out).mono ?_)
           rintro e w6 ⟨ov, oc, rfl, hc1, ho, b6⟩
           obtain ⟨oa, occ, rfl⟩ := ho.form
           obtain ⟨on, hon⟩ : ∃ z, oc.length = z := ⟨_, rfl⟩
           rw [hon] at ho ⊢
           have CI1 := zH hc1
           have S6 := zH (ho.read (by decide))
           have D6 : Hid (Below wo.heap.size wo (w6.alloc (.cells #[.slice oa on occ] 24))) := zH (b6.alloc b6.size _)
           have D6' : Hid (Below w6.heap.size w6 (w6.alloc (.cells #[.slice oa on occ] 24))) := zH (zB.alloc zL _)
           have K6 : Hid (Blk (w6.alloc (.cells #[.slice oa on occ] 24)) w6.heap.size 24 #[.slice oa on occ]) := zH (Blk.new _ _ _)
           have g6 : (w6.alloc (.cells #[.slice oa on occ] 24)).cell? ⟨gb, 0, none⟩ = some (.slice ga n gc) := ((KG1.out.below b6 lg1).alloc _).cell rfl
           clear hg1 _t e1 b6 ho hc1)
        | (go_at_call 12; go_must (refine (C2.out _ D6.out).mono ?_)
           rintro e w7 ⟨ov2, oc2, rfl, hc2, ho, b7⟩
           obtain ⟨oa2, occ2, rfl⟩ := ho.form
           obtain ⟨on2, hon2⟩ : ∃ z, oc2.length = z := ⟨_, rfl⟩
           rw [hon2] at ho ⊢
           have CI2 := zH hc2
           have S7 := zH (ho.read (by decide))
           have D7 := zH (D6'.out.trans (b7.mono D6'.out.size))
           have K7 := zH (K6.out.below b7 K6.out.lt)
           have B7 := zH (B1.out.trans ((D6.out.trans (b7.mono D6.out.size)).mono B1.out.size))
           clear b7 ho hc2 g6)
        | fail)
      have LW1 := LAWN.out oc oc2 CI1.out CI2.out
      have h8 : (w7.alloc (.cells #[.slice oa2 on2 occ2] 24)).cell? ⟨w6.heap.size, 0, none⟩ = some (.slice oa on occ) := (K7.out.alloc _).cell rfl
      have h9 : (w7.alloc (.cells #[.slice oa2 on2 occ2] 24)).cell? ⟨w7.heap.size, 0, none⟩ = some (.slice oa2 on2 occ2) := (Blk.new w7 24 #[.slice oa2 on2 occ2]).cell rfl
      have B8 : Hid (Below w.heap.size w (w7.alloc (.cells #[.slice oa2 on2 occ2] 24))) := zH (B7.out.alloc B7.out.size _)
      have B8' : Hid (Below w7.heap.size w7 (w7.alloc (.cells #[.slice oa2 on2 occ2] 24))) := zH (zB.alloc zL _)
      have l6 : w6.heap.size < (w7.alloc (.cells #[.slice oa2 on2 occ2] 24)).heap.size := (K7.out.alloc _).lt
      have SQ := zH (rsame_any (w7.alloc (.cells #[.slice oa2 on2 occ2] 24)) w7 ((S6.out.below D7.out).more D7.out.size) S7.out B8'.out)
      generalize hW8 : w7.alloc (.cells #[.slice oa2 on2 occ2] 24) = W8 at *
      clear hW8
      by_cases hrr : r1 = r2
      · have en : ((r1 : Int) != (r2 : Int)) = false := by rw [hrr]; simp
        have hcc := LW1.2 hrr
        rw [decide_eq_true hcc] at SQ
        clear hrr hcc LW1
        go_wp2_with (first
          | (go_at_call 11; go_must (refine SQ.out.mono ?_); rintro e w9 ⟨rfl, b9⟩; have B9 := zH (B8.out.trans (b9.mono B8.out.size)); clear b9)
          | fail)
        go_ret
        exact ⟨rfl, B9.out⟩
      · have en : ((r1 : Int) != (r2 : Int)) = true := by rw [bne_iff_ne]; omega
        have h80 := LW1.1 hrr
        clear hrr LW1
        by_cases h1 : r1 = 80
        · have e80 : ((r1 : Int) == 80) = true := by rw [h1]; rfl
          clear h1 h80
          go_wp2_with fail
          go_ret
          exact ⟨rfl, B8.out⟩
        · have e80 : ((r1 : Int) == 80) = false := by simp; omega
          have e81 : ((r2 : Int) == 80) = true := by rcases h80 with h | h; exact absurd h h1; rw [h]; rfl
          clear h1 h80
          go_wp2_with fail
          go_ret
          exact ⟨rfl, B8.out⟩
theorem lawNames {l : List ND} {v : Value} (w : World) (hs : SlR w w.heap.size 4 (ND.Is w w.heap.size) v l) (hok : ∀ d ∈ l, NdOk d) (hfit : l.length * 56 ≤ 140737488355328) (hv : AllV w) (x1 x2 : ByteArray) (hx : x2.size ≤ 140737488355328) : Calls Tryz.prog 5 #[.agg #[v], .string x1, .string x2] w fun e w' => e = .returned (.bool true) ∧ Below w.heap.size w w' := by
  have e1 := txt_bs x1
  have e2 := txt_bs x2
  rw [← e1, ← e2]
  exact names_walk w hs hv hok hfit (bs x1) (bs x2) (bs_bytes _) ⟨bs_bytes _, by rw [bs_len]; exact hx⟩
end Go.Proofs.YtdkoafmgenbkbaaGreatDoor
