/- The reference's Names, walked. -/
import Derived.Test.YtdhljfblkidohaaTn0
import Derived.Outline
namespace Go.Proofs.Ytdhljfblkidohaa
set_option linter.unusedSimpArgs false
set_option linter.unusedVariables false
open Go.RowKit

theorem toList_bs (s : ByteArray) : s.toList = bsL s := ByteArray.toList_eq s
set_option maxRecDepth 100000 in
set_option maxHeartbeats 4000000 in
theorem rnames_any {x : List Value} {d : Language} (w w0 : World) (h : Language.Is w0 w0.heap.size x d) (hw : Below w0.heap.size w0 w) :
    Calls Try.prog 14 #[.agg x.toArray] w fun e w' => (∃ a c, e = .returned (.slice a (namesN d).length c) ∧ Own1 w' w.heap.size 9 1 IsText (.slice a (namesN d).length c) (namesN d)) ∧ Below w.heap.size w w' := by
  obtain ⟨v2, v3, v4, v5, v6, v7, rfl, s2, s3, s4, s5, s6, s7, hfit, _⟩ := h
  obtain ⟨j2, hi, hz, hs, hb⟩ := info_parts infoL_text
  have I2 := Lib.hid (And.intro hi (And.intro hz (And.intro hs hb)))
  clear hi hz hs hb
  obtain ⟨a2, n2, c2, rfl⟩ := s2.form'
  obtain ⟨a3, n3, c3, rfl⟩ := s3.form'
  obtain ⟨a4, n4, c4, rfl⟩ := s4.form'
  obtain ⟨a5, n5, c5, rfl⟩ := s5.form'
  obtain ⟨a6, n6, c6, rfl⟩ := s6.form'
  obtain ⟨a7, n7, c7, rfl⟩ := s7.form'
  have G3 : n3 * 112 ≤ 140737488355328 := by have := hfit.2.1; rw [← s3.len] at this; exact this
  have F3 : n3 ≤ 1256584717458 := by omega
  have S3 := Lib.hid s3
  have Hw := Lib.hid hw
  have hlen : d.concepts.length = n3 := s3.len.symm
  have Hlen := Lib.hid hlen
  clear s2 s3 s4 s5 s6 s7 hfit hw G3
  go_enter Try.func14, Try.ntmps14
  try dsimp only [List.append]
  go_wp2_with fail
  go_loopw [3, 4] (fun out j wr => ∃ k : Nat, k ≤ n3 ∧ j = .int .i64 k ∧ Hid (Own1 wr (w.heap.size + 1) 9 1 IsText out (namesB ((d.concepts.take k).map fun c => c.name)) ∧ Below w.heap.size w wr ∧ Blk wr w.heap.size 29 #[.string d.name, .int .i64 d.version, .slice a2 n2 c2, .slice a3 n3 c3, .slice a4 n4 c4, .slice a5 n5 c5, .slice a6 n6 c6, .slice a7 n7 c7] ∧ w.heap.size < wr.heap.size)) (fun _ j _ => n3 - (intOf j).toNat)
  case atStart =>
    exact ⟨0, Nat.zero_le _, rfl, ⟨[], World.ownsRow_nil _ _ _ _, FlatR.nil_⟩, (Below.refl _ _).alloc (Nat.le_refl _) _, Blk.new w _ _, by simp⟩
  case round =>
    obtain ⟨k, hk, rfl, hinv⟩ := hrel
    obtain ⟨ho, hbl, hbx, hzw⟩ := hinv.out
    have cx3 := hbx.cell (i := 3) rfl
    have HBw : Below w0.heap.size w0 wr := Hw.out.trans (hbl.mono Hw.out.size)
    by_cases hlt : k < n3
    · obtain ⟨y, hd⟩ := get_some hlen hlt
      obtain ⟨b, off, x, rfl, hbB, hxl, ⟨v1, v2, v3, rfl, q1, q2, q3, _, _, _, hnm, _⟩, hx⟩ := (S3.out.below HBw).at_ hd
      have h0 := hx 0 _ rfl
      simp only [Nat.add_zero] at h0
      have hbw : b < wr.heap.size := by have := HBw.size; omega
      have hi0 : (0 : Int) ≤ (k : Int) := Int.natCast_nonneg _
      have hi1 : (k : Int) < (n3 : Int) := by omega
      obtain ⟨s, hsn⟩ : ∃ s, y.name = s := ⟨_, rfl⟩
      obtain ⟨l, hl⟩ : ∃ l, (((d.concepts.take k).map fun c => c.name) = l) := ⟨_, rfl⟩
      have hyk : l ++ [s] = ((d.concepts.take (k + 1)).map fun c => c.name) := by
        rw [List.take_succ_eq_append_getElem (by omega), (List.getElem?_eq_some_iff.1 hd).2, List.map_append, hl, ← hsn]
        rfl
      have hll : l.length ≤ k := by rw [← hl, List.length_map, List.length_take]; omega
      rw [hsn] at h0 hnm
      rw [hl] at ho
      obtain ⟨m, hm⟩ : ∃ m, (namesB l).length = m := ⟨_, rfl⟩
      have hmk : m ≤ k := by rw [← hm]; exact Nat.le_trans (namesB_length l) hll
      obtain ⟨oa, oc, rfl⟩ := ho.form
      rw [hm] at ho ⊢
      have HO := Lib.hid ho
      have HM := Lib.hid hm
      have HYK := Lib.hid hyk
      have HNM := Lib.hid hnm
      have HBL := Lib.hid hbl
      have HBX := Lib.hid hbx
      have hcaps := (ho.read (by omega)).caps
      have hcap1 : m ≤ oc := hcaps.1
      have hcap2 : oc ≤ 9223372036854775807 := by have := hcaps.2; unfold maxLen at this; omega
      have hshape : (oa = none ∧ m = 0 ∧ oc = 0) ∨ ∃ g, oa = some ⟨g, 0, none⟩ ∧ w.heap.size + 1 ≤ g ∧ g < wr.heap.size := by
        obtain ⟨xs, ⟨_, h1⟩, _⟩ := ho
        rcases h1 with ⟨h1, _⟩ | ⟨g, cap, cur, r1, r2, r3, _⟩
        · injection h1 with e1 e2 e3
          exact .inl ⟨e1, e2, e3⟩
        · injection r1 with e1 _ _
          exact .inr ⟨g, e1, r2, (Array.getElem?_eq_some_iff.1 r3).1⟩
      clear hd hx hxl q1 q2 q3 hnm hyk hll ho hbl hbx HBw hsn hl hm hinv hcaps
      obtain ⟨wo, hwo⟩ : ∃ wo, wo = wr := ⟨_, rfl⟩
      subst hwo
      rcases hshape with ⟨rfl, rfl, rfl⟩ | ⟨g, rfl, hg1, hg2⟩
      · go_wp2_with fail
        go_loopw [6] (fun j wr => j = .int .i64 0 ∧ Quiet wo wr) (fun _ _ => 0)
        case atStart => exact ⟨rfl, Quiet.refl _⟩
        case round =>
          obtain ⟨rfl, hqt⟩ := hrel
          have hz2 : wo.heap.size ≤ wr.heap.size := (hqt.below 0).size
          have HB2 : Hid (Below w.heap.size w wr) := Lib.hid (HBL.out.trans ((hqt.below _)))
          have HX2 : Hid (Blk wr w.heap.size 29 #[.string d.name, .int .i64 d.version, .slice a2 n2 c2, .slice (some ⟨b, off, none⟩) n3 c3, .slice a4 n4 c4, .slice a5 n5 c5, .slice a6 n6 c6, .slice a7 n7 c7]) := Lib.hid (HBX.out.below (hqt.below wo.heap.size) hzw)
          have HNIL : Hid (namesB l = []) := Lib.hid (List.eq_nil_of_length_eq_zero HM.out)
          clear hqt
          have tok1 : True := trivial
          have tok2 : True := trivial
          have tok3 : True := trivial
          go_wp2_with (first
            | (at_builtin
               have _t := tok1
               go_must (refine wpList_append_list rfl (.tmp 47) (.tmp 50) _ rfl wr.heap.size wr.heap.size 9 j2 _ 1 16 Try.underlying22 I2.out.1 I2.out.2.1 I2.out.2.2.1 I2.out.2.2.2 rfl (by omega) (R := IsText) (l := []) (m := []) (.slice (some ⟨wr.heap.size, 0, none⟩) 0 0) rfl (by exact Own1.empty rfl (Nat.le_refl _)) none 0 0 rfl (by exact SlR.nil_ _ (by unfold maxLen; omega) _) 0 (by simp) (fun x y hx u hu => by rw [hx.1] at hu; simp at hu; subst hu; rfl) (by simp) (by simp) (by rw [World.size_alloc]; omega) ?_)
               intro ra rc w3 hown hgr
               have B3 : Hid (Below wr.heap.size wr w3) := Lib.hid (((Below.refl _ _).alloc (Nat.le_refl _) _).grown hgr (by simp) (fun q hq => Nat.le_of_eq (Option.some.inj hq)))
               have R3 := Lib.hid hown
               have z3 := B3.out.size
               clear hown hgr tok1 _t)
            | (at_builtin
               have _t := tok2
               have _u := R3
               go_must (refine wpList_append_list rfl (.tmp 54) (.tmp 56) _ rfl (w.heap.size + 1) (w3.heap.size + 1) 9 j2 _ 1 16 Try.underlying22 I2.out.1 I2.out.2.1 I2.out.2.2.1 I2.out.2.2.2 rfl (by omega) (R := IsText) (l := []) (m := [s]) (.slice none 0 0) rfl (by exact ⟨[], World.ownsRow_nil _ _ _ _, FlatR.nil_⟩) (some ⟨w3.heap.size, 0, none⟩) 1 1 rfl (by exact SlR.new1 rfl rfl ⟨rfl, HNM.out⟩) 1 (by simp) (fun x y hx u hu => by rw [hx.1] at hu; simp at hu; subst hu; rfl) (by simp [maxLen]) (by simp) (by rw [World.size_alloc]; omega) ?_)
               intro pa pc w4 hown hgr0
               have hgr : (w3.alloc (.cells #[.string s] 9)).grownBy w4 none := hgr0
               have L3 : Below w.heap.size w w3 := HB2.out.trans (B3.out.mono HB2.out.size)
               have B4 : Hid (Below w.heap.size w w4) := Lib.hid ((L3.alloc L3.size (.cells #[.string s] 9)).grown hgr (by have := L3.size; simp; omega) (fun q' hq' => by cases hq'))
               have R4 := Lib.hid (grown_block (R3.out.alloc (.cells #[.string s] 9)) hgr (fun b' hb' he => by cases he))
               have X4 := Lib.hid (((HX2.out.below B3.out HX2.out.lt).alloc (.cells #[.string s] 9)).grown hgr (fun e => by cases e))
               have O4 := Lib.hid hown
               have z4 := X4.out.lt
               clear hown hgr hgr0 L3 tok2 _t _u)
            | (at_builtin
               have _t := tok3
               have _u := R4
               go_must (refine wpList_append_list rfl (.tmp 57) (.tmp 58) _ rfl (w.heap.size + 1) w4.heap.size 9 j2 _ 1 16 Try.underlying22 I2.out.1 I2.out.2.1 I2.out.2.2.1 I2.out.2.2.2 rfl (by omega) (R := IsText) (l := [] ++ [s]) (m := [] ++ []) (.slice pa 1 pc) rfl (by exact O4.out) ra 0 rc rfl (by exact R4.out.read (by omega)) 1 (by simp) (fun x y hx u hu => by rw [hx.1] at hu; simp at hu; subst hu; rfl) (by simp [maxLen]) (by simp) (by omega) ?_)
               intro fa fc w5 hown hgr
               have B5 : Hid (Below w.heap.size w w5) := Lib.hid (B4.out.grown hgr B4.out.size (fun q hq => by have := (O4.out.block q hq).1; omega))
               have X5 := Lib.hid (X4.out.grown hgr (fun e => by have := (O4.out.block _ e.symm).1; omega))
               have O5 := Lib.hid hown
               clear hown hgr tok3 _t _u)
            | fail)
          go_roundw
          case rel =>
            refine ⟨k + 1, by omega, by go_num, ?_, B5.out, X5.out, X5.out.lt⟩
            rw [← HYK.out, namesB_step l s 0 (Nat.zero_le _) (fun i x hi => by omega) (fun x hx => by rw [HNIL.out] at hx; cases hx), if_neg (by rw [HNIL.out]; simp), HNIL.out]
            have := O5.out
            simpa using this
          case measure => simp [intOf]; omega
      · go_wp2_with fail
        go_loopw [6] (fun j wr => ∃ q : Nat, q ≤ m ∧ j = .int .i64 q ∧ Quiet wo wr ∧ Hid (∀ i x, i < q → (namesB l)[i]? = some x → bsL x < bsL s)) (fun j _ => m - (intOf j).toNat)
        case atStart => exact ⟨0, Nat.zero_le _, rfl, Quiet.refl _, fun i x hi => by omega⟩
        case round =>
          obtain ⟨q, hq, rfl, hqt, hf⟩ := hrel
          have HQ := Lib.hid hqt
          have hz2 : wo.heap.size ≤ wr.heap.size := (hqt.below 0).size
          have HO2 : Hid (Own1 wr (w.heap.size + 1) 9 1 IsText (.slice (some ⟨g, 0, none⟩) m oc) (namesB l)) := Lib.hid (HO.out.below (hqt.below wo.heap.size) (Nat.le_refl _))
          have HB2 : Hid (Below w.heap.size w wr) := Lib.hid (HBL.out.trans ((hqt.below _)))
          have HX2 : Hid (Blk wr w.heap.size 29 #[.string d.name, .int .i64 d.version, .slice a2 n2 c2, .slice (some ⟨b, off, none⟩) n3 c3, .slice a4 n4 c4, .slice a5 n5 c5, .slice a6 n6 c6, .slice a7 n7 c7]) := Lib.hid (HBX.out.below (hqt.below wo.heap.size) hzw)
          have hj0 : (0 : Int) ≤ (q : Int) := Int.natCast_nonneg _
          clear hqt
          by_cases hqm : q < m
          · have hj1 : (q : Int) < (m : Int) := by omega
            obtain ⟨z, hz⟩ := get_some HM.out hqm
            obtain ⟨bq, oq, xq, he, hbq, hxl, ⟨rfl, _⟩, hxq⟩ := (HO2.out.read (by omega)).at_ hz
            injection he with he
            injection he with he1 he2
            subst he1 he2
            have hc := hxq 0 _ rfl
            simp only [Nat.zero_add, Nat.mul_one, Nat.add_zero] at hc
            have HZ := Lib.hid hz
            clear hxq hxl hz
            by_cases hlt2 : bsL z < bsL s
            · have hbl2 : Op.bytesLess z.toList s.toList = true := by rw [bytesLess_eq]; simpa [toList_bs] using hlt2
              go_wp2_with fail
              go_roundw
              case rel =>
                refine ⟨q + 1, by omega, by go_num, HQ.out, fun i x hi hx => ?_⟩
                rcases Nat.lt_or_ge i q with h' | h'
                · exact hf.out i x h' hx
                · obtain rfl : i = q := by omega
                  rw [HZ.out] at hx
                  injection hx with hx
                  subst hx
                  exact hlt2
              case measure => simp [intOf]; omega
            · have hbl2 : Op.bytesLess z.toList s.toList = false := by rw [bytesLess_eq]; simpa [toList_bs] using hlt2
              by_cases hzs : z = s
              · obtain rfl : s = z := hzs.symm
                have heq : (s.toList == s.toList) = true := by simp
                go_wp2_with fail
                go_roundw
                case rel =>
                  refine ⟨k + 1, by omega, by go_num, ?_, HB2.out, HX2.out, HX2.out.lt⟩
                  rw [← HYK.out, namesB_step l s q (by rw [HM.out]; omega) hf.out (fun x hx => by rw [HZ.out] at hx; injection hx with hx; subst hx; exact hlt2), if_pos HZ.out]
                  exact HO2.out
                case measure => simp [intOf]; omega
              · have heq : (z.toList == s.toList) = false := by simpa [toList_inj] using hzs
                have hqc : ¬ oc = q := by omega
                have SRC : Hid (SlR wr wr.heap.size 1 IsText (.slice (some ⟨g, q, none⟩) (m - q) (oc - q)) ((namesB l).drop q)) := Lib.hid (by have := row_last (HO2.out.read (by omega)) hq; simpa using this)
                have HTK : Hid (((namesB l).take q).length = q) := Lib.hid (by rw [List.length_take]; have := HM.out; omega)
                have tok1 : True := trivial
                have tok2 : True := trivial
                have tok3 : True := trivial
                go_wp2_with (first
                  | (at_builtin
                     have _t := tok1
                     go_must (refine wpList_append_list rfl (.tmp 47) (.tmp 50) _ rfl wr.heap.size wr.heap.size 9 j2 _ 1 16 Try.underlying22 I2.out.1 I2.out.2.1 I2.out.2.2.1 I2.out.2.2.2 rfl (by omega) (R := IsText) (l := []) (m := (namesB l).drop q) (.slice (some ⟨wr.heap.size, 0, none⟩) 0 0) rfl (by exact Own1.empty rfl (Nat.le_refl _)) (some ⟨g, q, none⟩) (m - q) (oc - q) rfl (by exact SRC.out.below ((Below.refl wr.heap.size wr).alloc (Nat.le_refl _) _)) (m - q) (by simp) (fun x y hx u hu => by rw [hx.1] at hu; simp at hu; subst hu; rfl) (by first | (simp; done) | (simp; unfold maxLen; omega)) (by first | (simp; done) | (simp; omega)) (by rw [World.size_alloc]; omega) ?_)
                     intro ra rc w3 hown hgr
                     have B3 : Hid (Below wr.heap.size wr w3) := Lib.hid (((Below.refl _ _).alloc (Nat.le_refl _) _).grown hgr (by simp) (fun q hq => Nat.le_of_eq (Option.some.inj hq)))
                     have O3 := Lib.hid (HO2.out.below B3.out (Nat.le_refl _))
                     have R3 := Lib.hid hown
                     have z3 := B3.out.size
                     clear hown hgr tok1 _t)
                  | (at_builtin
                     have _t := tok2
                     have _u := R3
                     go_must (refine wpList_append_list rfl (.tmp 54) (.tmp 56) _ rfl (w.heap.size + 1) (w3.heap.size + 1) 9 j2 _ 1 16 Try.underlying22 I2.out.1 I2.out.2.1 I2.out.2.2.1 I2.out.2.2.2 rfl (by omega) (R := IsText) (l := (namesB l).take q) (m := [s]) (.slice (some ⟨g, 0, none⟩) q oc) rfl (by exact (row_first O3.out hq).alloc _) (some ⟨w3.heap.size, 0, none⟩) 1 1 rfl (by exact SlR.new1 rfl rfl ⟨rfl, HNM.out⟩) (q + 1) (by rw [HTK.out]) (fun x y hx u hu => by rw [hx.1] at hu; simp at hu; subst hu; rfl) (by rw [HTK.out]; unfold maxLen; omega) (by rw [HTK.out]; omega) (by rw [World.size_alloc]; omega) ?_)
                     intro pa pc w4 hown hgr0
                     have hgr : (w3.alloc (.cells #[.string s] 9)).grownBy w4 (some g) := hgr0
                     have L3 : Below w.heap.size w w3 := HB2.out.trans (B3.out.mono HB2.out.size)
                     have B4 : Hid (Below w.heap.size w w4) := Lib.hid ((L3.alloc L3.size (.cells #[.string s] 9)).grown hgr (by have := L3.size; simp; omega) (fun q' hq' => by injection hq' with hq'; omega))
                     have R4 := Lib.hid (grown_block (R3.out.alloc (.cells #[.string s] 9)) hgr (fun b' hb' he => by injection he with he; have := (R3.out.block b' hb').1; omega))
                     have X4 := Lib.hid (((HX2.out.below B3.out HX2.out.lt).alloc (.cells #[.string s] 9)).grown hgr (fun e => by injection e with e; omega))
                     have O4 := Lib.hid hown
                     have z4 := X4.out.lt
                     clear hown hgr hgr0 L3 tok2 _t _u)
                  | (at_builtin
                     have _t := tok3
                     have _u := R4
                     go_must (refine wpList_append_list rfl (.tmp 57) (.tmp 58) _ rfl (w.heap.size + 1) w4.heap.size 9 j2 _ 1 16 Try.underlying22 I2.out.1 I2.out.2.1 I2.out.2.2.1 I2.out.2.2.2 rfl (by omega) (R := IsText) (l := (namesB l).take q ++ [s]) (m := (namesB l).drop q) (.slice pa (q + 1) pc) rfl (by exact O4.out) ra (m - q) rc rfl (by have := R4.out.read (by omega); simpa using this) (q + 1 + (m - q)) (by rw [List.length_append, HTK.out]; rfl) (fun x y hx u hu => by rw [hx.1] at hu; simp at hu; subst hu; rfl) (by rw [List.length_append, HTK.out, List.length_singleton]; unfold maxLen; omega) (by rw [List.length_append, HTK.out, List.length_singleton]; omega) (by omega) ?_)
                     intro fa fc w5 hown hgr
                     have B5 : Hid (Below w.heap.size w w5) := Lib.hid (B4.out.grown hgr B4.out.size (fun q hq => by have := (O4.out.block q hq).1; omega))
                     have X5 := Lib.hid (X4.out.grown hgr (fun e => by have := (O4.out.block _ e.symm).1; omega))
                     have O5 := Lib.hid hown
                     clear hown hgr tok3 _t _u)
                  | fail)
                go_roundw
                case rel =>
                  refine ⟨k + 1, by omega, by go_num, ?_, B5.out, X5.out, X5.out.lt⟩
                  rw [← HYK.out, namesB_step l s q (by rw [HM.out]; omega) hf.out (fun x hx => by rw [HZ.out] at hx; injection hx with hx; subst hx; exact hlt2), if_neg (by rw [HZ.out]; simpa using hzs)]
                  have := O5.out
                  simpa using this
                case measure => simp [intOf]; omega
          · obtain rfl : q = m := by omega
            have hno : (namesB l)[q]? = none := List.getElem?_eq_none (by rw [HM.out]; exact Nat.le_refl _)
            have HNO := Lib.hid hno
            have hmm : q - q = 0 := by omega
            clear hno
            by_cases hqc : oc = q
            · subst hqc
              have SRC : Hid (SlR wr wr.heap.size 1 IsText (.slice (some ⟨g, 0, none⟩) 0 0) ((namesB l).drop oc)) := Lib.hid (by rw [List.drop_eq_nil_of_le (by rw [HM.out]; exact Nat.le_refl _)]; exact SlR.nil_ _ (by unfold maxLen; omega) _)
              have HTK : Hid (((namesB l).take oc).length = oc) := Lib.hid (by rw [List.length_take]; have := HM.out; omega)
              have tok1 : True := trivial
              have tok2 : True := trivial
              have tok3 : True := trivial
              go_wp2_with (first
                | (at_builtin
                   have _t := tok1
                   go_must (refine wpList_append_list rfl (.tmp 47) (.tmp 50) _ rfl wr.heap.size wr.heap.size 9 j2 _ 1 16 Try.underlying22 I2.out.1 I2.out.2.1 I2.out.2.2.1 I2.out.2.2.2 rfl (by omega) (R := IsText) (l := []) (m := (namesB l).drop oc) (.slice (some ⟨wr.heap.size, 0, none⟩) 0 0) rfl (by exact Own1.empty rfl (Nat.le_refl _)) (some ⟨g, 0, none⟩) 0 0 rfl (by exact SRC.out.below ((Below.refl wr.heap.size wr).alloc (Nat.le_refl _) _)) 0 (by simp) (fun x y hx u hu => by rw [hx.1] at hu; simp at hu; subst hu; rfl) (by first | (simp; done) | (simp; unfold maxLen; omega)) (by first | (simp; done) | (simp; omega)) (by rw [World.size_alloc]; omega) ?_)
                   intro ra rc w3 hown hgr
                   have B3 : Hid (Below wr.heap.size wr w3) := Lib.hid (((Below.refl _ _).alloc (Nat.le_refl _) _).grown hgr (by simp) (fun q hq => Nat.le_of_eq (Option.some.inj hq)))
                   have O3 := Lib.hid (HO2.out.below B3.out (Nat.le_refl _))
                   have R3 := Lib.hid hown
                   have z3 := B3.out.size
                   clear hown hgr tok1 _t)
                | (at_builtin
                   have _t := tok2
                   have _u := R3
                   go_must (refine wpList_append_list rfl (.tmp 54) (.tmp 56) _ rfl (w.heap.size + 1) (w3.heap.size + 1) 9 j2 _ 1 16 Try.underlying22 I2.out.1 I2.out.2.1 I2.out.2.2.1 I2.out.2.2.2 rfl (by omega) (R := IsText) (l := (namesB l).take oc) (m := [s]) (.slice (some ⟨g, 0, none⟩) oc oc) rfl (by exact (row_first O3.out hq).alloc _) (some ⟨w3.heap.size, 0, none⟩) 1 1 rfl (by exact SlR.new1 rfl rfl ⟨rfl, HNM.out⟩) (oc + 1) (by rw [HTK.out]) (fun x y hx u hu => by rw [hx.1] at hu; simp at hu; subst hu; rfl) (by rw [HTK.out]; unfold maxLen; omega) (by rw [HTK.out]; omega) (by rw [World.size_alloc]; omega) ?_)
                   intro pa pc w4 hown hgr0
                   have hgr : (w3.alloc (.cells #[.string s] 9)).grownBy w4 (some g) := hgr0
                   have L3 : Below w.heap.size w w3 := HB2.out.trans (B3.out.mono HB2.out.size)
                   have B4 : Hid (Below w.heap.size w w4) := Lib.hid ((L3.alloc L3.size (.cells #[.string s] 9)).grown hgr (by have := L3.size; simp; omega) (fun q' hq' => by injection hq' with hq'; omega))
                   have R4 := Lib.hid (grown_block (R3.out.alloc (.cells #[.string s] 9)) hgr (fun b' hb' he => by injection he with he; have := (R3.out.block b' hb').1; omega))
                   have X4 := Lib.hid (((HX2.out.below B3.out HX2.out.lt).alloc (.cells #[.string s] 9)).grown hgr (fun e => by injection e with e; omega))
                   have O4 := Lib.hid hown
                   have z4 := X4.out.lt
                   clear hown hgr hgr0 L3 tok2 _t _u)
                | (at_builtin
                   have _t := tok3
                   have _u := R4
                   go_must (refine wpList_append_list rfl (.tmp 57) (.tmp 58) _ rfl (w.heap.size + 1) w4.heap.size 9 j2 _ 1 16 Try.underlying22 I2.out.1 I2.out.2.1 I2.out.2.2.1 I2.out.2.2.2 rfl (by omega) (R := IsText) (l := (namesB l).take oc ++ [s]) (m := (namesB l).drop oc) (.slice pa (oc + 1) pc) rfl (by exact O4.out) ra 0 rc rfl (by have := R4.out.read (by omega); simpa using this) (oc + 1 + 0) (by rw [List.length_append, HTK.out]; rfl) (fun x y hx u hu => by rw [hx.1] at hu; simp at hu; subst hu; rfl) (by rw [List.length_append, HTK.out, List.length_singleton]; unfold maxLen; omega) (by rw [List.length_append, HTK.out, List.length_singleton]; omega) (by omega) ?_)
                   intro fa fc w5 hown hgr
                   have B5 : Hid (Below w.heap.size w w5) := Lib.hid (B4.out.grown hgr B4.out.size (fun q hq => by have := (O4.out.block q hq).1; omega))
                   have X5 := Lib.hid (X4.out.grown hgr (fun e => by have := (O4.out.block _ e.symm).1; omega))
                   have O5 := Lib.hid hown
                   clear hown hgr tok3 _t _u)
                | fail)
              go_roundw
              case rel =>
                refine ⟨k + 1, by omega, by go_num, ?_, B5.out, X5.out, X5.out.lt⟩
                rw [← HYK.out, namesB_step l s oc (by rw [HM.out]; omega) hf.out (fun x hx => by rw [HNO.out] at hx; cases hx), if_neg (by rw [HNO.out]; simp)]
                have := O5.out
                simpa using this
              case measure => simp [intOf]; omega
            · have SRC : Hid (SlR wr wr.heap.size 1 IsText (.slice (some ⟨g, q, none⟩) 0 (oc - q)) ((namesB l).drop q)) := Lib.hid (by rw [List.drop_eq_nil_of_le (by rw [HM.out]; exact Nat.le_refl _)]; exact SlR.nil_ _ (by unfold maxLen; omega) _)
              have HTK : Hid (((namesB l).take q).length = q) := Lib.hid (by rw [List.length_take]; have := HM.out; omega)
              have tok1 : True := trivial
              have tok2 : True := trivial
              have tok3 : True := trivial
              go_wp2_with (first
                | (at_builtin
                   have _t := tok1
                   go_must (refine wpList_append_list rfl (.tmp 47) (.tmp 50) _ rfl wr.heap.size wr.heap.size 9 j2 _ 1 16 Try.underlying22 I2.out.1 I2.out.2.1 I2.out.2.2.1 I2.out.2.2.2 rfl (by omega) (R := IsText) (l := []) (m := (namesB l).drop q) (.slice (some ⟨wr.heap.size, 0, none⟩) 0 0) rfl (by exact Own1.empty rfl (Nat.le_refl _)) (some ⟨g, q, none⟩) 0 (oc - q) rfl (by exact SRC.out.below ((Below.refl wr.heap.size wr).alloc (Nat.le_refl _) _)) 0 (by simp) (fun x y hx u hu => by rw [hx.1] at hu; simp at hu; subst hu; rfl) (by first | (simp; done) | (simp; unfold maxLen; omega)) (by first | (simp; done) | (simp; omega)) (by rw [World.size_alloc]; omega) ?_)
                   intro ra rc w3 hown hgr
                   have B3 : Hid (Below wr.heap.size wr w3) := Lib.hid (((Below.refl _ _).alloc (Nat.le_refl _) _).grown hgr (by simp) (fun q hq => Nat.le_of_eq (Option.some.inj hq)))
                   have O3 := Lib.hid (HO2.out.below B3.out (Nat.le_refl _))
                   have R3 := Lib.hid hown
                   have z3 := B3.out.size
                   clear hown hgr tok1 _t)
                | (at_builtin
                   have _t := tok2
                   have _u := R3
                   go_must (refine wpList_append_list rfl (.tmp 54) (.tmp 56) _ rfl (w.heap.size + 1) (w3.heap.size + 1) 9 j2 _ 1 16 Try.underlying22 I2.out.1 I2.out.2.1 I2.out.2.2.1 I2.out.2.2.2 rfl (by omega) (R := IsText) (l := (namesB l).take q) (m := [s]) (.slice (some ⟨g, 0, none⟩) q oc) rfl (by exact (row_first O3.out hq).alloc _) (some ⟨w3.heap.size, 0, none⟩) 1 1 rfl (by exact SlR.new1 rfl rfl ⟨rfl, HNM.out⟩) (q + 1) (by rw [HTK.out]) (fun x y hx u hu => by rw [hx.1] at hu; simp at hu; subst hu; rfl) (by rw [HTK.out]; unfold maxLen; omega) (by rw [HTK.out]; omega) (by rw [World.size_alloc]; omega) ?_)
                   intro pa pc w4 hown hgr0
                   have hgr : (w3.alloc (.cells #[.string s] 9)).grownBy w4 (some g) := hgr0
                   have L3 : Below w.heap.size w w3 := HB2.out.trans (B3.out.mono HB2.out.size)
                   have B4 : Hid (Below w.heap.size w w4) := Lib.hid ((L3.alloc L3.size (.cells #[.string s] 9)).grown hgr (by have := L3.size; simp; omega) (fun q' hq' => by injection hq' with hq'; omega))
                   have R4 := Lib.hid (grown_block (R3.out.alloc (.cells #[.string s] 9)) hgr (fun b' hb' he => by injection he with he; have := (R3.out.block b' hb').1; omega))
                   have X4 := Lib.hid (((HX2.out.below B3.out HX2.out.lt).alloc (.cells #[.string s] 9)).grown hgr (fun e => by injection e with e; omega))
                   have O4 := Lib.hid hown
                   have z4 := X4.out.lt
                   clear hown hgr hgr0 L3 tok2 _t _u)
                | (at_builtin
                   have _t := tok3
                   have _u := R4
                   go_must (refine wpList_append_list rfl (.tmp 57) (.tmp 58) _ rfl (w.heap.size + 1) w4.heap.size 9 j2 _ 1 16 Try.underlying22 I2.out.1 I2.out.2.1 I2.out.2.2.1 I2.out.2.2.2 rfl (by omega) (R := IsText) (l := (namesB l).take q ++ [s]) (m := (namesB l).drop q) (.slice pa (q + 1) pc) rfl (by exact O4.out) ra 0 rc rfl (by have := R4.out.read (by omega); simpa using this) (q + 1 + 0) (by rw [List.length_append, HTK.out]; rfl) (fun x y hx u hu => by rw [hx.1] at hu; simp at hu; subst hu; rfl) (by rw [List.length_append, HTK.out, List.length_singleton]; unfold maxLen; omega) (by rw [List.length_append, HTK.out, List.length_singleton]; omega) (by omega) ?_)
                   intro fa fc w5 hown hgr
                   have B5 : Hid (Below w.heap.size w w5) := Lib.hid (B4.out.grown hgr B4.out.size (fun q hq => by have := (O4.out.block q hq).1; omega))
                   have X5 := Lib.hid (X4.out.grown hgr (fun e => by have := (O4.out.block _ e.symm).1; omega))
                   have O5 := Lib.hid hown
                   clear hown hgr tok3 _t _u)
                | fail)
              go_roundw
              case rel =>
                refine ⟨k + 1, by omega, by go_num, ?_, B5.out, X5.out, X5.out.lt⟩
                rw [← HYK.out, namesB_step l s q (by rw [HM.out]; omega) hf.out (fun x hx => by rw [HNO.out] at hx; cases hx), if_neg (by rw [HNO.out]; simp)]
                have := O5.out
                simpa using this
              case measure => simp [intOf]; omega
    · have hge : n3 ≤ k := by omega
      have hall : (d.concepts.take k) = d.concepts := List.take_of_length_le (by omega)
      have hnn : namesB ((d.concepts.take k).map fun c => c.name) = namesN d := by rw [hall]; exact fold_names _
      rw [hnn] at ho
      obtain ⟨oa, oc, rfl⟩ := ho.form
      have HO := Lib.hid ho
      have HBL := Lib.hid hbl
      clear hlt hall hnn ho hbl hbx hinv HBw
      go_wp2_with fail
      go_ret
      exact ⟨⟨oa, oc, rfl, HO.out.mono (by omega)⟩, HBL.out⟩
end Go.Proofs.Ytdhljfblkidohaa
