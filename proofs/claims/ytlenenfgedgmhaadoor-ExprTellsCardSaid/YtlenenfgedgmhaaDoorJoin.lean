/- Joined tokens: what the program's and the reference's Join answer. -/
import Derived.Test.YtlenenfgedgmhaaDoorMay
import Derived.Test.YtlenenfgedgmhaaDoorBuild
import Derived.IntWalk
namespace Go.Proofs.YtlenenfgedgmhaaDoor
set_option linter.unusedSimpArgs false
set_option linter.unusedVariables false
open Go.RowKit

theorem BuiltSt.drewN {w : World} {B b : Nat} {l : List Nat} (h : BuiltSt w B b l) (n : Nat) : BuiltSt (w.drewN n) B b l := h
theorem join_end {o J : List Nat} {l : List Tok} {k : Nat} (h : joinAll o (decide (k = 0)) (l.drop k) = J) (hk : l.length ≤ k) : o = J := by
  rw [List.drop_of_length_le hk] at h
  exact h
theorem join_step {o J : List Nat} {l : List Tok} {k : Nat} {t : Tok} (h : joinAll o (decide (k = 0)) (l.drop k) = J) (hk : l[k]? = some t) : joinAll ((if k = 0 then o else o ++ [32]) ++ shownN t) (decide (k + 1 = 0)) (l.drop (k + 1)) = J := by
  have hl := (List.getElem?_eq_some_iff.1 hk).1
  rw [List.drop_eq_getElem_cons hl, (List.getElem?_eq_some_iff.1 hk).2, joinAll_cons] at h
  rw [show decide (k + 1 = 0) = false from rfl, ← h]
  simp
theorem join_far {o J : List Nat} {l : List Tok} {k : Nat} {t : Tok} (h : joinAll o (decide (k = 0)) (l.drop k) = J) (hk : l[k]? = some t) (hm : mayN t = true) (hl : 4096 < (if k = 0 then o else o ++ [32]).length + t.text.length) : 4096 < J.length := by
  have hkl := (List.getElem?_eq_some_iff.1 hk).1
  rw [List.drop_eq_getElem_cons hkl, (List.getElem?_eq_some_iff.1 hk).2] at h
  rw [← h]
  refine join_long hm ?_
  simpa using hl
theorem join_far2 {o J : List Nat} {l : List Tok} {k : Nat} {t : Tok} (h : joinAll o (decide (k = 0)) (l.drop k) = J) (hk : l[k]? = some t) (hm : mayN t = true) (hl : 4096 < t.text.length ∨ 4096 < o.length) : 4096 < J.length := by
  have hkl := (List.getElem?_eq_some_iff.1 hk).1
  rw [List.drop_eq_getElem_cons hkl, (List.getElem?_eq_some_iff.1 hk).2] at h
  rw [← h]
  exact join_long2 hm hl
theorem joinN_no {l : List Tok} {k : Nat} {t : Tok} (hk : l[k]? = some t) (h : mayN t = false) : joinN l = ([], 2) := by
  unfold joinN
  rw [if_neg]
  intro ha
  have := List.all_eq_true.1 ha t (List.mem_iff_getElem?.2 ⟨k, hk⟩)
  rw [h] at this
  cases this
theorem all_may {l : List Tok} (h : ∀ i t, i < l.length → l[i]? = some t → mayN t = true) : l.all mayN = true := by
  rw [List.all_eq_true]
  intro t ht
  obtain ⟨i, hi⟩ := List.mem_iff_getElem?.1 ht
  exact h i t (List.getElem?_eq_some_iff.1 hi).1 hi
theorem joinN_long {l : List Tok} (ha : l.all mayN = true) (h : 4096 < (joinAll [] true l).length) : joinN l = ([], 3) := by
  unfold joinN
  rw [if_pos ha, if_pos h]
theorem joinN_yes {l : List Tok} (ha : l.all mayN = true) (h : ¬ 4096 < (joinAll [] true l).length) : joinN l = (joinAll [] true l, 0) := by
  unfold joinN
  rw [if_pos ha, if_neg h]
theorem showN_len {v : Int} (h1 : -9223372036854775808 ≤ v) (h2 : v ≤ 9223372036854775807) : (showN v).length ≤ 20 := (intN_some (intN_show h1 h2)).2.2.2
theorem shown_bound {t : Tok} (ht : t.ok) (h : t.text.length ≤ 4096) : (shownN t).length ≤ 16500 ∧ Bytes (shownN t) := by
  obtain ⟨hb, _, _, hv, _⟩ := ht
  unfold shownN
  split
  · have hv' := hv
    simp [Lit.wf, IntKind.min, IntKind.max, IntKind.signed, IntKind.bits] at hv'
    refine ⟨by have := showN_len hv'.1 hv'.2; omega, ?_⟩
    intro n hn
    unfold showN at hn
    split at hn
    · rcases List.mem_cons.1 hn with rfl | hn
      · omega
      · have := dec_digits _ n hn; omega
    · have := dec_digits _ n hn; omega
  · split
    · refine ⟨?_, quote_bytes hb⟩
      unfold quoteN
      have := flat_len t.text
      simp only [List.length_cons, List.length_append, List.length_nil]
      omega
    · exact ⟨by omega, hb⟩


set_option maxRecDepth 100000 in
set_option maxHeartbeats 8000000 in
theorem join_any {l : List Tok} {v : Value} (w w0 : World) (hs : SlR w0 w0.heap.size 4 Tok.Is v l) (hw : Below w0.heap.size w0 w) (hbig : ∀ t ∈ l, t.text.length ≤ 281474976710656) (hm : Marks w) (hp : Pow w) :
    Calls Tryd.prog 90 #[v] w fun e w' => e = .returned (.tuple #[.string (txt (joinN l).1), .int .i64 ((joinN l).2 : Int)]) ∧ Below w.heap.size w w' := by
  obtain ⟨a, c, rfl⟩ : ∃ a c, v = .slice a l.length c := by obtain ⟨a, c, h, _⟩ := hs.form; exact ⟨a, c, h⟩
  have hn : l.length ≤ 9223372036854775807 := by have := hs.caps; unfold maxLen at this; omega
  obtain ⟨R, hR⟩ : ∃ R, joinN l = R := ⟨_, rfl⟩
  rw [hR]
  obtain ⟨n, hlen⟩ : ∃ n, l.length = n := ⟨_, rfl⟩
  rw [hlen] at hs hn ⊢
  have Hlen := Lib.hid hlen
  have HR := Lib.hid hR
  have Hs := Lib.hid hs
  have Hw := Lib.hid hw
  have Hbig := Lib.hid hbig
  have Hwz := hw.size
  have Hm := Lib.hid hm
  have Hp := Lib.hid hp
  clear hs hlen hw hR hbig hm hp
  go_enter Tryd.func90, Tryd.ntmps90
  go_wp2_with fail
  go_loopw [11] (fun i wr => ∃ k : Nat, k ≤ n ∧ i = .int .i64 (k : Int) ∧ Hid (∀ i t, i < k → l[i]? = some t → mayN t = true) ∧ Hid (Below w.heap.size w wr)) (fun i _ => n - (intOf i).toNat)
  case atStart => exact ⟨0, Nat.zero_le _, rfl, fun i t h => by omega, Below.refl _ _⟩
  case round =>
    obtain ⟨k, hk, rfl, hall, hb⟩ := hrel
    have b1 : (0 : Int) ≤ (k : Int) := Int.natCast_nonneg _
    have hbz := hb.out.size
    by_cases hlt : k < n
    · have d1 : decide ((k : Int) < (n : Int)) = true := by simp; omega
      obtain ⟨y, hd⟩ := get_some Hlen.out hlt
      have hw1 := Hw.out.trans (hb.out.mono Hw.out.size)
      obtain ⟨b, off, x, rfl, hbB, hxl, ⟨rfl, hok⟩, hx⟩ := (Hs.out.below hw1).at_ hd
      have h0 := hx 0 _ rfl
      have h1 := hx 1 _ rfl
      have h2 := hx 2 _ rfl
      have h3 := hx 3 _ rfl
      simp only [Nat.add_zero] at h0
      have Hd := Lib.hid hd
      have Hok := Lib.hid hok
      have MA : Hid (∀ W, Below w.heap.size w W → Calls Tryd.prog 102 #[.agg #[.int .i64 y.kind, .string (txt y.text), .int .i64 y.num, .int .i64 y.place]] W fun e w' => e = .returned (.bool (mayN y)) ∧ Below W.heap.size W w') := Lib.hid (fun W hW => may_any y hok W (Hm.out.below hW))
      clear hd hx hxl hw1 hok
      cases hmay : mayN y with
      | false =>
        have hv := joinN_no Hd.out hmay
        rw [HR.out] at hv
        have HV := Lib.hid hv
        rw [hmay] at MA
        clear hv hmay
        go_wp2_with (first
          | (go_at_call 102
             refine (MA.out _ (by exact hb.out.alloc hbz _)).mono ?_
             rintro e w1 ⟨rfl, b1'⟩
             have B1 : Hid (Below w.heap.size w w1) := Lib.hid ((hb.out.alloc hbz _).trans (b1'.mono (by simp; omega)))
             clear b1'))
        (try simp only [Exit.inBlock, Exit.then, Exit.noGoto_ret])
        go_ret2
        exact ⟨by rw [HV.out]; rfl, B1.out⟩
      | true =>
        have hnew := so_far1 Hd.out hmay hall.out
        have HN := Lib.hid hnew
        rw [hmay] at MA
        clear hnew hmay hall
        go_wp2_with (first
          | (go_at_call 102
             refine (MA.out _ (by exact hb.out.alloc hbz _)).mono ?_
             rintro e w1 ⟨rfl, b1'⟩
             have B1 : Hid (Below w.heap.size w w1) := Lib.hid ((hb.out.alloc hbz _).trans (b1'.mono (by simp; omega)))
             clear b1'))
        go_roundw
        case rel => exact ⟨k + 1, by omega, by go_num, HN.out, B1.out⟩
        case measure => simp [intOf]; omega
    · have hkn : k = n := by omega
      have hdec : decide (k < n) = false := by simp; omega
      have hdec2 : decide ((k : Int) < (n : Int)) = false := by simp; omega
      have ha : l.all mayN = true := all_may (fun i t hi ht => hall.out i t (by have := Hlen.out; omega) ht)
      obtain ⟨J, hJ⟩ : ∃ J, joinAll [] true l = J := ⟨_, rfl⟩
      have hlong := fun h => joinN_long (l := l) ha h
      have hyes := fun h => joinN_yes (l := l) ha h
      rw [hJ, HR.out] at hlong hyes
      have hall2 : ∀ i t, l[i]? = some t → mayN t = true := fun i t ht => hall.out i t (by have := (List.getElem?_eq_some_iff.1 ht).1; have := Hlen.out; omega) ht
      have HJ := Lib.hid (And.intro hlong (And.intro hyes (And.intro hJ hall2)))
      clear hlong hyes hJ hall hall2 hkn ha
      obtain ⟨wo, hwo⟩ : ∃ wo, wo = wr := ⟨wr, rfl⟩
      subst hwo
      go_wp2_with fail
      go_loopw [21] (fun i wr => ∃ (k : Nat) (o : List Nat), k ≤ n ∧ i = .int .i64 (k : Int) ∧ o.length ≤ 30000 ∧ Hid (joinAll o (decide (k = 0)) (l.drop k) = J) ∧ Hid (BuiltSt wr wo.heap.size wo.heap.size o ∧ Below w.heap.size w wr) ∧ wo.heap.size < wr.heap.size) (fun i _ => n - (intOf i).toNat)
      case atStart => exact ⟨0, [], Nat.zero_le _, rfl, by simp, HJ.out.2.2.1, ⟨BuiltSt.new wo, hb.out.alloc hbz _⟩, by simp⟩
      case round =>
        clear hlt hdec hdec2 hk b1
        obtain ⟨k, o, hk, rfl, ho, hj, hB, hwz⟩ := hrel
        have b1 : (0 : Int) ≤ (k : Int) := Int.natCast_nonneg _
        have hbz2 := hB.out.2.size
        by_cases hlt : k < n
        · have d1 : decide ((k : Int) < (n : Int)) = true := by simp; omega
          have hb2 := Lib.hid hB.out.2
          obtain ⟨y, hd⟩ := get_some Hlen.out hlt
          have hw1 := Hw.out.trans (hB.out.2.mono Hw.out.size)
          obtain ⟨b, off, x, rfl, hbB, hxl, ⟨rfl, hok⟩, hx⟩ := (Hs.out.below hw1).at_ hd
          have h0 := hx 0 _ rfl
          have h1 := hx 1 _ rfl
          have h2 := hx 2 _ rfl
          have h3 := hx 3 _ rfl
          simp only [Nat.add_zero] at h0
          have Hd := Lib.hid hd
          have Hok := Lib.hid hok
          have hmay := HJ.out.2.2.2 k y hd
          obtain ⟨o', ho'⟩ : ∃ o', (if k = 0 then o else o ++ [32]) = o' := ⟨_, rfl⟩
          have hol : o'.length ≤ 30001 := by rw [← ho']; split; omega; rw [List.length_append]; simp; omega
          have hsz : ((txt y.text).size : Int) = (y.text.length : Int) := by rw [txt_size]
          have hstep := join_step hj.out hd
          have hfar := join_far hj.out hd hmay
          rw [ho'] at hstep hfar
          have H3 := Lib.hid (And.intro hstep hfar)
          have hyz : y.text.length ≤ 281474976710656 := Hbig.out y (List.mem_iff_getElem?.2 ⟨k, hd⟩)
          clear hstep hfar hd hx hxl hw1 hok hmay hj
          have hk0 : k = 0 ∨ 0 < k := by omega
          rcases hk0 with rfl | hk0
          · rw [if_pos rfl] at ho'
            subst ho'
            simp only [Nat.zero_mul, Nat.add_zero] at h0 h1 h2 h3
            have hol' : (o.length : Int) ≤ 30001 := by omega
            have hyz' : (y.text.length : Int) ≤ 281474976710656 := by omega
            have hnn : (0 : Int) ≤ (o.length : Int) := Int.natCast_nonneg _
            have hnn2 : (0 : Int) ≤ (y.text.length : Int) := Int.natCast_nonneg _
            by_cases hlong : 4096 < o.length + y.text.length
            · have dl : decide (4096 < (o.length : Int) + (y.text.length : Int)) = true := by simp only [decide_eq_true_eq]; omega
              have HV := Lib.hid (HJ.out.1 (H3.out.2 hlong))
              go_wp2_with (first
              | (fail))
              have sw : IntKind.i64.wrap ((o.length : Int) + (y.text.length : Int)) = (o.length : Int) + (y.text.length : Int) := IntWalk.i64_in _ (by omega)
              go_quiet ((go_at_call 31; exact Calls.quiet_of_same (built_len ((hB.out.1.keep ((Below.refl _ _).alloc (Nat.le_refl _) _)).drewN _))))
              clear sw
              go_wp2_with fail
              (try simp only [Exit.inBlock, Exit.then, Exit.noGoto_ret])
              go_ret2
              exact ⟨by rw [HV.out]; rfl, below_drewN (hB.out.2.alloc hbz2 _) _⟩
            · have dl : decide (4096 < (o.length : Int) + (y.text.length : Int)) = false := by simp only [decide_eq_false_iff_not]; omega
              have SH : Hid (∀ W, Below w.heap.size w W → Calls Tryd.prog 104 #[.agg #[.int .i64 y.kind, .string (txt y.text), .int .i64 y.num, .int .i64 y.place]] W fun e w' => e = .returned (.string (txt (shownN y))) ∧ Below W.heap.size W w') := Lib.hid (fun W hW => shown_any y Hok.out (by omega) W (Hp.out.below hW))
              have hsb := shown_bound Hok.out (show y.text.length ≤ 4096 by omega)
              have Hsb := Lib.hid (And.intro hsb.1 (And.intro (bs_txt hsb.2) (txt_size (shownN y))))
              clear hsb
              go_wp2_with (first
              | (fail))
              have sw : IntKind.i64.wrap ((o.length : Int) + (y.text.length : Int)) = (o.length : Int) + (y.text.length : Int) := IntWalk.i64_in _ (by omega)
              go_quiet ((go_at_call 31; exact Calls.quiet_of_same (built_len ((hB.out.1.keep ((Below.refl _ _).alloc (Nat.le_refl _) _)).drewN _))))
              clear sw
              go_wp2_with (first
                | (go_at_call 104
                   refine (SH.out _ (below_drewN (hB.out.2.alloc hbz2 _) _)).mono ?_
                   rintro e w3 ⟨rfl, b3⟩
                   have S3 := Lib.hid (And.intro (((hB.out.1.keep ((Below.refl _ _).alloc (Nat.le_refl _) _)).drewN _).keep b3) ((below_drewN (hB.out.2.alloc hbz2 _) _).trans (b3.mono (Nat.le_trans hbz2 (Nat.le_of_lt (by simp))))))
                   have z3 : wo.heap.size ≤ w3.heap.size := Nat.le_trans (by simp; omega) b3.size
                   clear b3)
                | (go_at_call 56
                   refine (write_text _ S3.out.1 (by rw [Hsb.out.2.2]; have := Hsb.out.1; omega) z3).mono ?_
                   rintro e w4 ⟨rfl, s4, b4, _⟩
                   rw [Hsb.out.2.1] at s4
                   have S4 := Lib.hid (And.intro s4 (S3.out.2.trans (b4.mono hbz)))
                   have z4 : wo.heap.size < w4.heap.size := by obtain ⟨_, _, _, _, hbk, _⟩ := s4; exact hbk.lt
                   clear s4 b4))
              go_roundw
              case rel => exact ⟨0 + 1, o ++ shownN y, by omega, by go_num, by rw [List.length_append]; have := Hsb.out.1; omega, H3.out.1, S4.out, z4⟩
              case measure => simp [intOf]; omega
          · rw [if_neg (by omega)] at ho'
            have dk : decide (0 < (k : Int)) = true := by simp; omega
            have Ho := Lib.hid ho'
            clear ho'
            have hol' : (o'.length : Int) ≤ 30001 := by omega
            have hyz' : (y.text.length : Int) ≤ 281474976710656 := by omega
            have hnn : (0 : Int) ≤ (o'.length : Int) := Int.natCast_nonneg _
            have hnn2 : (0 : Int) ≤ (y.text.length : Int) := Int.natCast_nonneg _
            by_cases hlong : 4096 < o'.length + y.text.length
            · have dl : decide (4096 < (o'.length : Int) + (y.text.length : Int)) = true := by simp only [decide_eq_true_eq]; omega
              have HV := Lib.hid (HJ.out.1 (H3.out.2 hlong))
              go_wp2_with (first
              | (go_at_call 103
                 refine (write_byte 32 (by omega) (hB.out.1.keep ((Below.refl _ _).alloc (Nat.le_refl _) _)) (by omega) (by simp; omega)).mono ?_
                 rintro e w1 ⟨rfl, s1, b1', k1⟩
                 rw [Ho.out] at s1
                 have S1 := Lib.hid (And.intro s1 (And.intro ((hB.out.2.alloc hbz2 _).trans (b1'.mono hbz)) (k1 _ _ _ (Blk.new wr _ _) (by decide) (by omega))))
                 have c0 := S1.out.2.2.cell (i := 0) rfl
                 have c1 := S1.out.2.2.cell (i := 1) rfl
                 have c2 := S1.out.2.2.cell (i := 2) rfl
                 have c3 := S1.out.2.2.cell (i := 3) rfl
                 have z0 := S1.out.2.2.lt
                 have z1 : wo.heap.size ≤ w1.heap.size := Nat.le_trans (Nat.le_trans (Nat.le_of_lt hwz) (by simp)) b1'.size
                 clear s1 b1' k1))
              have sw : IntKind.i64.wrap ((o'.length : Int) + (y.text.length : Int)) = (o'.length : Int) + (y.text.length : Int) := IntWalk.i64_in _ (by omega)
              go_quiet ((go_at_call 31; exact Calls.quiet_of_same (built_len (S1.out.1.drewN _))))
              clear sw
              go_wp2_with fail
              (try simp only [Exit.inBlock, Exit.then, Exit.noGoto_ret])
              go_ret2
              exact ⟨by rw [HV.out]; rfl, below_drewN S1.out.2.1 _⟩
            · have dl : decide (4096 < (o'.length : Int) + (y.text.length : Int)) = false := by simp only [decide_eq_false_iff_not]; omega
              have SH : Hid (∀ W, Below w.heap.size w W → Calls Tryd.prog 104 #[.agg #[.int .i64 y.kind, .string (txt y.text), .int .i64 y.num, .int .i64 y.place]] W fun e w' => e = .returned (.string (txt (shownN y))) ∧ Below W.heap.size W w') := Lib.hid (fun W hW => shown_any y Hok.out (by omega) W (Hp.out.below hW))
              have hsb := shown_bound Hok.out (show y.text.length ≤ 4096 by omega)
              have Hsb := Lib.hid (And.intro hsb.1 (And.intro (bs_txt hsb.2) (txt_size (shownN y))))
              clear hsb
              go_wp2_with (first
              | (go_at_call 103
                 refine (write_byte 32 (by omega) (hB.out.1.keep ((Below.refl _ _).alloc (Nat.le_refl _) _)) (by omega) (by simp; omega)).mono ?_
                 rintro e w1 ⟨rfl, s1, b1', k1⟩
                 rw [Ho.out] at s1
                 have S1 := Lib.hid (And.intro s1 (And.intro ((hB.out.2.alloc hbz2 _).trans (b1'.mono hbz)) (k1 _ _ _ (Blk.new wr _ _) (by decide) (by omega))))
                 have c0 := S1.out.2.2.cell (i := 0) rfl
                 have c1 := S1.out.2.2.cell (i := 1) rfl
                 have c2 := S1.out.2.2.cell (i := 2) rfl
                 have c3 := S1.out.2.2.cell (i := 3) rfl
                 have z0 := S1.out.2.2.lt
                 have z1 : wo.heap.size ≤ w1.heap.size := Nat.le_trans (Nat.le_trans (Nat.le_of_lt hwz) (by simp)) b1'.size
                 clear s1 b1' k1))
              have sw : IntKind.i64.wrap ((o'.length : Int) + (y.text.length : Int)) = (o'.length : Int) + (y.text.length : Int) := IntWalk.i64_in _ (by omega)
              go_quiet ((go_at_call 31; exact Calls.quiet_of_same (built_len (S1.out.1.drewN _))))
              clear sw
              go_wp2_with (first
                | (go_at_call 104
                   refine (SH.out _ (below_drewN S1.out.2.1 _)).mono ?_
                   rintro e w3 ⟨rfl, b3⟩
                   have S3 := Lib.hid (And.intro ((S1.out.1.drewN _).keep b3) ((below_drewN S1.out.2.1 _).trans (b3.mono S1.out.2.1.size)))
                   have z3 : wo.heap.size ≤ w3.heap.size := Nat.le_trans z1 b3.size
                   clear b3)
                | (go_at_call 56
                   refine (write_text _ S3.out.1 (by rw [Hsb.out.2.2]; have := Hsb.out.1; omega) z3).mono ?_
                   rintro e w4 ⟨rfl, s4, b4, _⟩
                   rw [Hsb.out.2.1] at s4
                   have S4 := Lib.hid (And.intro s4 (S3.out.2.trans (b4.mono hbz)))
                   have z4 : wo.heap.size < w4.heap.size := by obtain ⟨_, _, _, _, hbk, _⟩ := s4; exact hbk.lt
                   clear s4 b4))
              go_roundw
              case rel => exact ⟨k + 1, o' ++ shownN y, by omega, by go_num, by rw [List.length_append]; have := Hsb.out.1; omega, H3.out.1, S4.out, z4⟩
              case measure => simp [intOf]; omega
        · have hdec : decide (k < n) = false := by simp; omega
          have hdec2 : decide ((k : Int) < (n : Int)) = false := by simp; omega
          have hoJ := join_end hj.out (by rw [Hlen.out]; omega)
          subst hoJ
          have LN : Hid (∀ W, BuiltSt W wo.heap.size wo.heap.size o → Calls Tryd.prog 31 #[.pointer (some ⟨wo.heap.size, 0, none⟩)] W fun e w' => e = .returned (.int .i64 (o.length : Int)) ∧ w' = W) := Lib.hid (fun W h => built_len h)
          by_cases hbig' : 4096 < o.length
          · have hd : decide (4096 < (o.length : Int)) = true := by simp; omega
            have HV := Lib.hid (HJ.out.1 hbig')
            clear hj
            go_wp2_with (first
              | (go_at_call 31
                 refine (LN.out _ hB.out.1).mono ?_
                 rintro e w1 ⟨rfl, rfl⟩))
            (try simp only [Exit.inBlock, Exit.then, Exit.noGoto_ret])
            go_ret2
            exact ⟨by rw [HV.out]; rfl, hB.out.2⟩
          · have hd : decide (4096 < (o.length : Int)) = false := by simp; omega
            have HV := Lib.hid (HJ.out.2.1 hbig')
            clear hj
            go_wp2_with (first
              | (go_at_call 31
                 refine (LN.out _ hB.out.1).mono ?_
                 rintro e w1 ⟨rfl, rfl⟩)
              | (go_at_call 32
                 refine (built_text hB.out.1 (Nat.le_of_lt hwz)).mono ?_
                 rintro e w2 ⟨rfl, b2⟩
                 have B2 := Lib.hid (hB.out.2.trans (b2.mono hbz))
                 clear b2))
            (try simp only [Exit.inBlock, Exit.then, Exit.noGoto_ret])
            go_ret2
            exact ⟨by rw [HV.out]; rfl, B2.out⟩

end Go.Proofs.YtlenenfgedgmhaaDoor
