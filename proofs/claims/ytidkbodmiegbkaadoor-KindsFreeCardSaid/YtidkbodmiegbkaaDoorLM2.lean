/- Taken over out of another chapter (its text EJoin): what is needed here. Taken over out of another chapter (its text ERg1): what is needed here. Taken over out of another chapter (its text ETl0): what is needed here. Taken over out of another chapter (its text ETl1): what is needed here. Taken over out of another chapter (its text ETl3): what is needed here. Taken over out of another chapter (its text ERt0): what is needed here. Taken over out of another chapter (its text CpO): what is needed here. Taken over out of another chapter (its text CpQ): what is needed here. Taken over out of another chapter (its text CpS): what is needed here. Taken over out of another chapter (its text CpV): what is needed here. Taken over out of another chapter (its text CrA): what is needed here. Taken over out of another chapter (its text CrB): what is needed here. Taken over out of another chapter (its text RdB): what is needed here. Taken over out of another chapter (its text EPTree): what is needed here. Taken over out of another chapter (its text EFlat0): what is needed here. Taken over out of another chapter (its text EFlat): what is needed here. Taken over out of another chapter (its text ETw8): what is needed here. Taken over out of another chapter (its text ERn0): what is needed here. Taken over out of another chapter (its text CrI): what is needed here. Taken over out of another chapter (its text DoorC): what is needed here. Taken over out of another chapter (its text ERSmall): what is needed here. Taken over out of another chapter (its text ERg2): what is needed here. Taken over out of another chapter (its text ERm8): what is needed here. Taken over out of another chapter (its text ERr8): what is needed here. -/
import Derived.Test.YtidkbodmiegbkaaDoorProg
import Derived.Test.YtidkbodmiegbkaaDoorShelf
import Derived.Test.YtidkbodmiegbkaaDoorLM1
import Derived.Below
import Derived.BigQuiet
import Derived.BigRegion
import Derived.Deep.AppendLies
import Derived.Deep.Draws
import Derived.Deep.Fields
import Derived.Deep.LoopGhost
import Derived.Deep.QuietTactic
import Derived.Deep.RegionHeld2
import Derived.Deep.RegionHeld3
import Derived.Deep.RegionLaw
import Derived.Deep.Slices
import Derived.Defers
import Derived.IntWalk
import Derived.Laws.BytesString
import Derived.Laws.IdiomStrings
import Derived.Laws.Pointers
import Derived.Laws.Rows
import Derived.Lib.AppendStr
import Derived.Lib.Builder
import Derived.Lib.FrozenHead
import Derived.Lib.Hide
import Derived.Lib.ItoaNum
import Derived.Lib.ParseIntB
import Derived.Maps.AppendAt
import Derived.Outline
import Derived.OwnWalk
import Derived.ProofKit
import Derived.Recover
import Derived.RegionTactic
import Derived.StillTailTactics
import Derived.Tactics
import Derived.Tactics2
import Derived.WalkKit
import Derived.WalkMore
import Derived.WalkSmall
import Derived.WalkSpells
import Derived.Laws.EntriesVeiled
import Derived.Deep.CutRange
import Derived.Laws.Cover1
import Derived.Laws.MakeOwn
import Derived.Lib.SliceRun
import Derived.Orders
import Derived.Deep.CutBlock
import Derived.Lib.CutLaws
import Derived.Lib.SlicesS
import Derived.Laws.OwnMore
import Derived.ChangeOld
import Derived.Deep.DeepHandedRow
import Derived.Deep.Strs
import Derived.JoinedCond
import Derived.Lib.LaidTab
import Derived.OpenShut
import Derived.ShutString
import Derived.Stop.LaidErr
namespace Go.Proofs.YtidkbodmiegbkaaDoor
set_option linter.unusedSimpArgs false
set_option linter.unusedVariables false
open Go.RowKit
theorem BuiltSt.drewN {w : World} {B b : Nat} {l : List Nat} (h : BuiltSt w B b l) (n : Nat) : BuiltSt (w.drewN n) B b l := h
theorem join_end {o J : List Nat} {l : List Tok} {k : Nat} (h : joinAll o (decide (k = 0)) (l.drop k) = J) (hk : l.length ≤ k) : o = J := by
  rw [List.drop_of_length_le hk] at h
  exact h
theorem join_step {o J : List Nat} {l : List Tok} {k : Nat} {t : Tok} (h : joinAll o (decide (k = 0)) (l.drop k) = J) (hk : l[k]? = some t) : joinAll ((if k = 0 then o else o ++ [32]) ++ shownN t) (decide (k + 1 = 0)) (l.drop (k + 1)) = J := by
  have hl := (List.getElem?_eq_some_iff.1 hk).1
  rw [List.drop_eq_getElem_cons hl, (List.getElem?_eq_some_iff.1 hk).2, joinAll_cons] at h
  rw [show decide (k + 1 = 0) = false from rfl, ← h]
  simp
theorem join_far {o J : List Nat} {l : List Tok} {k : Nat} {t : Tok} (h : joinAll o (decide (k = 0)) (l.drop k) = J) (hk : l[k]? = some t) (hm : mayN t = true) (hl : 4096 < (if k = 0 then o else o ++ [32]).length + t.text.length) : 4096 < J.length := by
  have hkl := (List.getElem?_eq_some_iff.1 hk).1
  rw [List.drop_eq_getElem_cons hkl, (List.getElem?_eq_some_iff.1 hk).2] at h
  rw [← h]
  refine join_long hm ?_
  simpa using hl
theorem joinN_no {l : List Tok} {k : Nat} {t : Tok} (hk : l[k]? = some t) (h : mayN t = false) : joinN l = ([], 2) := by
  unfold joinN
  rw [if_neg]
  intro ha
  have := List.all_eq_true.1 ha t (List.mem_iff_getElem?.2 ⟨k, hk⟩)
  rw [h] at this
  cases this
theorem all_may {l : List Tok} (h : ∀ i t, i < l.length → l[i]? = some t → mayN t = true) : l.all mayN = true := by
  rw [List.all_eq_true]
  intro t ht
  obtain ⟨i, hi⟩ := List.mem_iff_getElem?.1 ht
  exact h i t (List.getElem?_eq_some_iff.1 hi).1 hi
theorem joinN_long {l : List Tok} (ha : l.all mayN = true) (h : 4096 < (joinAll [] true l).length) : joinN l = ([], 3) := by
  unfold joinN
  rw [if_pos ha, if_pos h]
theorem joinN_yes {l : List Tok} (ha : l.all mayN = true) (h : ¬ 4096 < (joinAll [] true l).length) : joinN l = (joinAll [] true l, 0) := by
  unfold joinN
  rw [if_pos ha, if_neg h]
theorem showN_len {v : Int} (h1 : -9223372036854775808 ≤ v) (h2 : v ≤ 9223372036854775807) : (showN v).length ≤ 20 := (intN_some (intN_show h1 h2)).2.2.2
theorem shown_bound {t : Tok} (ht : t.ok) (h : t.text.length ≤ 4096) : (shownN t).length ≤ 16500 ∧ Bytes (shownN t) := by
  obtain ⟨hb, _, _, hv, _⟩ := ht
  unfold shownN
  split
  · have hv' := hv
    simp [Lit.wf, IntKind.min, IntKind.max, IntKind.signed, IntKind.bits] at hv'
    refine ⟨by have := showN_len hv'.1 hv'.2; omega, ?_⟩
    intro n hn
    unfold showN at hn
    split at hn
    · rcases List.mem_cons.1 hn with rfl | hn
      · omega
      · have := dec_digits _ n hn; omega
    · have := dec_digits _ n hn; omega
  · split
    · refine ⟨?_, quote_bytes hb⟩
      unfold quoteN
      have := flat_len t.text
      simp only [List.length_cons, List.length_append, List.length_nil]
      omega
    · exact ⟨by omega, hb⟩
set_option maxRecDepth 100000 in
set_option maxHeartbeats 8000000 in
theorem join_any {l : List Tok} {v : Value} (w w0 : World) (hs : SlR w0 w0.heap.size 4 Tok.Is v l) (hw : Below w0.heap.size w0 w) (hbig : ∀ t ∈ l, t.text.length ≤ 281474976710656) (hm : Marks w) (hp : Pow w) :
    Calls Tryd.prog 58 #[v] w fun e w' => e = .returned (.tuple #[.string (txt (joinN l).1), .int .i64 ((joinN l).2 : Int)]) ∧ Below w.heap.size w w' := by
  obtain ⟨a, c, rfl⟩ : ∃ a c, v = .slice a l.length c := by obtain ⟨a, c, h, _⟩ := hs.form; exact ⟨a, c, h⟩
  have hn : l.length ≤ 9223372036854775807 := by have := hs.caps; unfold maxLen at this; omega
  obtain ⟨R, hR⟩ : ∃ R, joinN l = R := ⟨_, rfl⟩
  rw [hR]
  obtain ⟨n, hlen⟩ : ∃ n, l.length = n := ⟨_, rfl⟩
  rw [hlen] at hs hn ⊢
  have Hlen := Lib.hid hlen
  have HR := Lib.hid hR
  have Hs := Lib.hid hs
  have Hw := Lib.hid hw
  have Hbig := Lib.hid hbig
  have Hwz := hw.size
  have Hm := Lib.hid hm
  have Hp := Lib.hid hp
  clear hs hlen hw hR hbig hm hp
  go_enter Tryd.func58, Tryd.ntmps58
  go_wp2_with fail
  go_loopw [11] (fun i wr => ∃ k : Nat, k ≤ n ∧ i = .int .i64 (k : Int) ∧ Hid (∀ i t, i < k → l[i]? = some t → mayN t = true) ∧ Hid (Below w.heap.size w wr)) (fun i _ => n - (intOf i).toNat)
  case atStart => exact ⟨0, Nat.zero_le _, rfl, fun i t h => by omega, Below.refl _ _⟩
  case round =>
    obtain ⟨k, hk, rfl, hall, hb⟩ := hrel
    have b1 : (0 : Int) ≤ (k : Int) := Int.natCast_nonneg _
    have hbz := hb.out.size
    by_cases hlt : k < n
    · have d1 : decide ((k : Int) < (n : Int)) = true := by simp; omega
      obtain ⟨y, hd⟩ := get_some Hlen.out hlt
      have hw1 := Hw.out.trans (hb.out.mono Hw.out.size)
      obtain ⟨b, off, x, rfl, hbB, hxl, ⟨rfl, hok⟩, hx⟩ := (Hs.out.below hw1).at_ hd
      have h0 := hx 0 _ rfl
      have h1 := hx 1 _ rfl
      have h2 := hx 2 _ rfl
      have h3 := hx 3 _ rfl
      simp only [Nat.add_zero] at h0
      have Hd := Lib.hid hd
      have Hok := Lib.hid hok
      have MA : Hid (∀ W, Below w.heap.size w W → Calls Tryd.prog 61 #[.agg #[.int .i64 y.kind, .string (txt y.text), .int .i64 y.num, .int .i64 y.place]] W fun e w' => e = .returned (.bool (mayN y)) ∧ Below W.heap.size W w') := Lib.hid (fun W hW => may_any y hok W (Hm.out.below hW))
      clear hd hx hxl hw1 hok
      cases hmay : mayN y with
      | false =>
        have hv := joinN_no Hd.out hmay
        rw [HR.out] at hv
        have HV := Lib.hid hv
        rw [hmay] at MA
        clear hv hmay
        go_wp2_with (first
          | (go_at_call 61
             refine (MA.out _ (by exact hb.out.alloc hbz _)).mono ?_
             rintro e w1 ⟨rfl, b1'⟩
             have B1 : Hid (Below w.heap.size w w1) := Lib.hid ((hb.out.alloc hbz _).trans (b1'.mono (by simp; omega)))
             clear b1'))
        (try simp only [Exit.inBlock, Exit.then, Exit.noGoto_ret])
        go_ret2
        exact ⟨by rw [HV.out]; rfl, B1.out⟩
      | true =>
        have hnew := so_far1 Hd.out hmay hall.out
        have HN := Lib.hid hnew
        rw [hmay] at MA
        clear hnew hmay hall
        go_wp2_with (first
          | (go_at_call 61
             refine (MA.out _ (by exact hb.out.alloc hbz _)).mono ?_
             rintro e w1 ⟨rfl, b1'⟩
             have B1 : Hid (Below w.heap.size w w1) := Lib.hid ((hb.out.alloc hbz _).trans (b1'.mono (by simp; omega)))
             clear b1'))
        go_roundw
        case rel => exact ⟨k + 1, by omega, by go_num, HN.out, B1.out⟩
        case measure => simp [intOf]; omega
    · have hkn : k = n := by omega
      have hdec : decide (k < n) = false := by simp; omega
      have hdec2 : decide ((k : Int) < (n : Int)) = false := by simp; omega
      have ha : l.all mayN = true := all_may (fun i t hi ht => hall.out i t (by have := Hlen.out; omega) ht)
      obtain ⟨J, hJ⟩ : ∃ J, joinAll [] true l = J := ⟨_, rfl⟩
      have hlong := fun h => joinN_long (l := l) ha h
      have hyes := fun h => joinN_yes (l := l) ha h
      rw [hJ, HR.out] at hlong hyes
      have hall2 : ∀ i t, l[i]? = some t → mayN t = true := fun i t ht => hall.out i t (by have := (List.getElem?_eq_some_iff.1 ht).1; have := Hlen.out; omega) ht
      have HJ := Lib.hid (And.intro hlong (And.intro hyes (And.intro hJ hall2)))
      clear hlong hyes hJ hall hall2 hkn ha
      obtain ⟨wo, hwo⟩ : ∃ wo, wo = wr := ⟨wr, rfl⟩
      subst hwo
      go_wp2_with fail
      go_loopw [21] (fun i wr => ∃ (k : Nat) (o : List Nat), k ≤ n ∧ i = .int .i64 (k : Int) ∧ o.length ≤ 30000 ∧ Hid (joinAll o (decide (k = 0)) (l.drop k) = J) ∧ Hid (BuiltSt wr wo.heap.size wo.heap.size o ∧ Below w.heap.size w wr) ∧ wo.heap.size < wr.heap.size) (fun i _ => n - (intOf i).toNat)
      case atStart => exact ⟨0, [], Nat.zero_le _, rfl, by simp, HJ.out.2.2.1, ⟨BuiltSt.new wo, hb.out.alloc hbz _⟩, by simp⟩
      case round =>
        clear hlt hdec hdec2 hk b1
        obtain ⟨k, o, hk, rfl, ho, hj, hB, hwz⟩ := hrel
        have b1 : (0 : Int) ≤ (k : Int) := Int.natCast_nonneg _
        have hbz2 := hB.out.2.size
        by_cases hlt : k < n
        · have d1 : decide ((k : Int) < (n : Int)) = true := by simp; omega
          have hb2 := Lib.hid hB.out.2
          obtain ⟨y, hd⟩ := get_some Hlen.out hlt
          have hw1 := Hw.out.trans (hB.out.2.mono Hw.out.size)
          obtain ⟨b, off, x, rfl, hbB, hxl, ⟨rfl, hok⟩, hx⟩ := (Hs.out.below hw1).at_ hd
          have h0 := hx 0 _ rfl
          have h1 := hx 1 _ rfl
          have h2 := hx 2 _ rfl
          have h3 := hx 3 _ rfl
          simp only [Nat.add_zero] at h0
          have Hd := Lib.hid hd
          have Hok := Lib.hid hok
          have hmay := HJ.out.2.2.2 k y hd
          obtain ⟨o', ho'⟩ : ∃ o', (if k = 0 then o else o ++ [32]) = o' := ⟨_, rfl⟩
          have hol : o'.length ≤ 30001 := by rw [← ho']; split; omega; rw [List.length_append]; simp; omega
          have hsz : ((txt y.text).size : Int) = (y.text.length : Int) := by rw [txt_size]
          have hstep := join_step hj.out hd
          have hfar := join_far hj.out hd hmay
          rw [ho'] at hstep hfar
          have H3 := Lib.hid (And.intro hstep hfar)
          have hyz : y.text.length ≤ 281474976710656 := Hbig.out y (List.mem_iff_getElem?.2 ⟨k, hd⟩)
          clear hstep hfar hd hx hxl hw1 hok hmay hj
          have hk0 : k = 0 ∨ 0 < k := by omega
          rcases hk0 with rfl | hk0
          · rw [if_pos rfl] at ho'
            subst ho'
            simp only [Nat.zero_mul, Nat.add_zero] at h0 h1 h2 h3
            have hol' : (o.length : Int) ≤ 30001 := by omega
            have hyz' : (y.text.length : Int) ≤ 281474976710656 := by omega
            have hnn : (0 : Int) ≤ (o.length : Int) := Int.natCast_nonneg _
            have hnn2 : (0 : Int) ≤ (y.text.length : Int) := Int.natCast_nonneg _
            by_cases hlong : 4096 < o.length + y.text.length
            · have dl : decide (4096 < (o.length : Int) + (y.text.length : Int)) = true := by simp only [decide_eq_true_eq]; omega
              have HV := Lib.hid (HJ.out.1 (H3.out.2 hlong))
              go_wp2_with (first
              | (fail))
              have sw : IntKind.i64.wrap ((o.length : Int) + (y.text.length : Int)) = (o.length : Int) + (y.text.length : Int) := IntWalk.i64_in _ (by omega)
              go_quiet ((go_at_call 63; exact Calls.quiet_of_same (built_len ((hB.out.1.keep ((Below.refl _ _).alloc (Nat.le_refl _) _)).drewN _))))
              clear sw
              go_wp2_with fail
              (try simp only [Exit.inBlock, Exit.then, Exit.noGoto_ret])
              go_ret2
              exact ⟨by rw [HV.out]; rfl, below_drewN (hB.out.2.alloc hbz2 _) _⟩
            · have dl : decide (4096 < (o.length : Int) + (y.text.length : Int)) = false := by simp only [decide_eq_false_iff_not]; omega
              have SH : Hid (∀ W, Below w.heap.size w W → Calls Tryd.prog 65 #[.agg #[.int .i64 y.kind, .string (txt y.text), .int .i64 y.num, .int .i64 y.place]] W fun e w' => e = .returned (.string (txt (shownN y))) ∧ Below W.heap.size W w') := Lib.hid (fun W hW => lshown_any y Hok.out (by omega) W (Hp.out.below hW))
              have hsb := shown_bound Hok.out (show y.text.length ≤ 4096 by omega)
              have Hsb := Lib.hid (And.intro hsb.1 (And.intro (bs_txt hsb.2) (txt_size (shownN y))))
              clear hsb
              go_wp2_with (first
              | (fail))
              have sw : IntKind.i64.wrap ((o.length : Int) + (y.text.length : Int)) = (o.length : Int) + (y.text.length : Int) := IntWalk.i64_in _ (by omega)
              go_quiet ((go_at_call 63; exact Calls.quiet_of_same (built_len ((hB.out.1.keep ((Below.refl _ _).alloc (Nat.le_refl _) _)).drewN _))))
              clear sw
              go_wp2_with (first
                | (go_at_call 65
                   refine (SH.out _ (below_drewN (hB.out.2.alloc hbz2 _) _)).mono ?_
                   rintro e w3 ⟨rfl, b3⟩
                   have S3 := Lib.hid (And.intro (((hB.out.1.keep ((Below.refl _ _).alloc (Nat.le_refl _) _)).drewN _).keep b3) ((below_drewN (hB.out.2.alloc hbz2 _) _).trans (b3.mono (Nat.le_trans hbz2 (Nat.le_of_lt (by simp))))))
                   have z3 : wo.heap.size ≤ w3.heap.size := Nat.le_trans (by simp; omega) b3.size
                   clear b3)
                | (go_at_call 64
                   refine (write_text _ S3.out.1 (by rw [Hsb.out.2.2]; have := Hsb.out.1; omega) z3).mono ?_
                   rintro e w4 ⟨rfl, s4, b4, _⟩
                   rw [Hsb.out.2.1] at s4
                   have S4 := Lib.hid (And.intro s4 (S3.out.2.trans (b4.mono hbz)))
                   have z4 : wo.heap.size < w4.heap.size := by obtain ⟨_, _, _, _, hbk, _⟩ := s4; exact hbk.lt
                   clear s4 b4))
              go_roundw
              case rel => exact ⟨0 + 1, o ++ shownN y, by omega, by go_num, by rw [List.length_append]; have := Hsb.out.1; omega, H3.out.1, S4.out, z4⟩
              case measure => simp [intOf]; omega
          · rw [if_neg (by omega)] at ho'
            have dk : decide (0 < (k : Int)) = true := by simp; omega
            have Ho := Lib.hid ho'
            clear ho'
            have hol' : (o'.length : Int) ≤ 30001 := by omega
            have hyz' : (y.text.length : Int) ≤ 281474976710656 := by omega
            have hnn : (0 : Int) ≤ (o'.length : Int) := Int.natCast_nonneg _
            have hnn2 : (0 : Int) ≤ (y.text.length : Int) := Int.natCast_nonneg _
            by_cases hlong : 4096 < o'.length + y.text.length
            · have dl : decide (4096 < (o'.length : Int) + (y.text.length : Int)) = true := by simp only [decide_eq_true_eq]; omega
              have HV := Lib.hid (HJ.out.1 (H3.out.2 hlong))
              go_wp2_with (first
              | (go_at_call 62
                 refine (write_byte 32 (by omega) (hB.out.1.keep ((Below.refl _ _).alloc (Nat.le_refl _) _)) (by omega) (by simp; omega)).mono ?_
                 rintro e w1 ⟨rfl, s1, b1', k1⟩
                 rw [Ho.out] at s1
                 have S1 := Lib.hid (And.intro s1 (And.intro ((hB.out.2.alloc hbz2 _).trans (b1'.mono hbz)) (k1 _ _ _ (Blk.new wr _ _) (by decide) (by omega))))
                 have c0 := S1.out.2.2.cell (i := 0) rfl
                 have c1 := S1.out.2.2.cell (i := 1) rfl
                 have c2 := S1.out.2.2.cell (i := 2) rfl
                 have c3 := S1.out.2.2.cell (i := 3) rfl
                 have z0 := S1.out.2.2.lt
                 have z1 : wo.heap.size ≤ w1.heap.size := Nat.le_trans (Nat.le_trans (Nat.le_of_lt hwz) (by simp)) b1'.size
                 clear s1 b1' k1))
              have sw : IntKind.i64.wrap ((o'.length : Int) + (y.text.length : Int)) = (o'.length : Int) + (y.text.length : Int) := IntWalk.i64_in _ (by omega)
              go_quiet ((go_at_call 63; exact Calls.quiet_of_same (built_len (S1.out.1.drewN _))))
              clear sw
              go_wp2_with fail
              (try simp only [Exit.inBlock, Exit.then, Exit.noGoto_ret])
              go_ret2
              exact ⟨by rw [HV.out]; rfl, below_drewN S1.out.2.1 _⟩
            · have dl : decide (4096 < (o'.length : Int) + (y.text.length : Int)) = false := by simp only [decide_eq_false_iff_not]; omega
              have SH : Hid (∀ W, Below w.heap.size w W → Calls Tryd.prog 65 #[.agg #[.int .i64 y.kind, .string (txt y.text), .int .i64 y.num, .int .i64 y.place]] W fun e w' => e = .returned (.string (txt (shownN y))) ∧ Below W.heap.size W w') := Lib.hid (fun W hW => lshown_any y Hok.out (by omega) W (Hp.out.below hW))
              have hsb := shown_bound Hok.out (show y.text.length ≤ 4096 by omega)
              have Hsb := Lib.hid (And.intro hsb.1 (And.intro (bs_txt hsb.2) (txt_size (shownN y))))
              clear hsb
              go_wp2_with (first
              | (go_at_call 62
                 refine (write_byte 32 (by omega) (hB.out.1.keep ((Below.refl _ _).alloc (Nat.le_refl _) _)) (by omega) (by simp; omega)).mono ?_
                 rintro e w1 ⟨rfl, s1, b1', k1⟩
                 rw [Ho.out] at s1
                 have S1 := Lib.hid (And.intro s1 (And.intro ((hB.out.2.alloc hbz2 _).trans (b1'.mono hbz)) (k1 _ _ _ (Blk.new wr _ _) (by decide) (by omega))))
                 have c0 := S1.out.2.2.cell (i := 0) rfl
                 have c1 := S1.out.2.2.cell (i := 1) rfl
                 have c2 := S1.out.2.2.cell (i := 2) rfl
                 have c3 := S1.out.2.2.cell (i := 3) rfl
                 have z0 := S1.out.2.2.lt
                 have z1 : wo.heap.size ≤ w1.heap.size := Nat.le_trans (Nat.le_trans (Nat.le_of_lt hwz) (by simp)) b1'.size
                 clear s1 b1' k1))
              have sw : IntKind.i64.wrap ((o'.length : Int) + (y.text.length : Int)) = (o'.length : Int) + (y.text.length : Int) := IntWalk.i64_in _ (by omega)
              go_quiet ((go_at_call 63; exact Calls.quiet_of_same (built_len (S1.out.1.drewN _))))
              clear sw
              go_wp2_with (first
                | (go_at_call 65
                   refine (SH.out _ (below_drewN S1.out.2.1 _)).mono ?_
                   rintro e w3 ⟨rfl, b3⟩
                   have S3 := Lib.hid (And.intro ((S1.out.1.drewN _).keep b3) ((below_drewN S1.out.2.1 _).trans (b3.mono S1.out.2.1.size)))
                   have z3 : wo.heap.size ≤ w3.heap.size := Nat.le_trans z1 b3.size
                   clear b3)
                | (go_at_call 64
                   refine (write_text _ S3.out.1 (by rw [Hsb.out.2.2]; have := Hsb.out.1; omega) z3).mono ?_
                   rintro e w4 ⟨rfl, s4, b4, _⟩
                   rw [Hsb.out.2.1] at s4
                   have S4 := Lib.hid (And.intro s4 (S3.out.2.trans (b4.mono hbz)))
                   have z4 : wo.heap.size < w4.heap.size := by obtain ⟨_, _, _, _, hbk, _⟩ := s4; exact hbk.lt
                   clear s4 b4))
              go_roundw
              case rel => exact ⟨k + 1, o' ++ shownN y, by omega, by go_num, by rw [List.length_append]; have := Hsb.out.1; omega, H3.out.1, S4.out, z4⟩
              case measure => simp [intOf]; omega
        · have hdec : decide (k < n) = false := by simp; omega
          have hdec2 : decide ((k : Int) < (n : Int)) = false := by simp; omega
          have hoJ := join_end hj.out (by rw [Hlen.out]; omega)
          subst hoJ
          have LN : Hid (∀ W, BuiltSt W wo.heap.size wo.heap.size o → Calls Tryd.prog 63 #[.pointer (some ⟨wo.heap.size, 0, none⟩)] W fun e w' => e = .returned (.int .i64 (o.length : Int)) ∧ w' = W) := Lib.hid (fun W h => built_len h)
          by_cases hbig' : 4096 < o.length
          · have hd : decide (4096 < (o.length : Int)) = true := by simp; omega
            have HV := Lib.hid (HJ.out.1 hbig')
            clear hj
            go_wp2_with (first
              | (go_at_call 63
                 refine (LN.out _ hB.out.1).mono ?_
                 rintro e w1 ⟨rfl, rfl⟩))
            (try simp only [Exit.inBlock, Exit.then, Exit.noGoto_ret])
            go_ret2
            exact ⟨by rw [HV.out]; rfl, hB.out.2⟩
          · have hd : decide (4096 < (o.length : Int)) = false := by simp; omega
            have HV := Lib.hid (HJ.out.2.1 hbig')
            clear hj
            go_wp2_with (first
              | (go_at_call 63
                 refine (LN.out _ hB.out.1).mono ?_
                 rintro e w1 ⟨rfl, rfl⟩)
              | (go_at_call 66
                 refine (built_text hB.out.1 (Nat.le_of_lt hwz)).mono ?_
                 rintro e w2 ⟨rfl, b2⟩
                 have B2 := Lib.hid (hB.out.2.trans (b2.mono hbz))
                 clear b2))
            (try simp only [Exit.inBlock, Exit.then, Exit.noGoto_ret])
            go_ret2
            exact ⟨by rw [HV.out]; rfl, B2.out⟩
end Go.Proofs.YtidkbodmiegbkaaDoor
namespace Go.Proofs.YtidkbodmiegbkaaDoor
set_option linter.unusedSimpArgs false
set_option linter.unusedVariables false
open Go.RowKit
theorem right_len {s : List Nat} (h : rightN s = true) : s.length ≤ 32 := by
  unfold rightN at h
  split at h
  · cases h
  · rw [Bool.and_eq_true, Bool.and_eq_true] at h
    exact of_decide_eq_true h.1.1
theorem join_name (s : List Nat) : (joinN [⟨3, s, 0, 0⟩]).2 = if rightN s && !decide (s ∈ wordsL) then 0 else 2 := by
  have hm : ([⟨3, s, 0, 0⟩] : List Tok).all mayN = (rightN s && !decide (s ∈ wordsL)) := by simp [mayN]
  unfold joinN
  rw [hm]
  by_cases h : (rightN s && !decide (s ∈ wordsL)) = true
  · rw [if_pos h, if_pos h]
    have hl : (joinAll [] true [(⟨3, s, 0, 0⟩ : Tok)]).length ≤ 4096 := by
      rw [Bool.and_eq_true] at h
      have := right_len h.1
      simp [joinAll, shownN]
      omega
    rw [if_neg (by omega)]
  · rw [if_neg h, if_neg h]
set_option maxRecDepth 100000 in
set_option maxHeartbeats 4000000 in
theorem p_plain (s : List Nat) (hb : Bytes s) (hl : s.length ≤ 140737488355328) (w : World) (hm : Marks w) (hp : Pow w) : Calls Tryd.prog 50 #[.string (txt s)] w fun e w' => e = .returned (.bool (plain8N s)) ∧ Below w.heap.size w w' := by
  have hok : Tok.ok ⟨3, s, 0, 0⟩ := ⟨hb, by show s.length ≤ maxLen; unfold maxLen; omega, by show (Lit.int .i64 3).wf = true; decide, by show (Lit.int .i64 0).wf = true; decide, by show (Lit.int .i64 0).wf = true; decide⟩
  have B0 : Below w.heap.size w (w.alloc (.cells #[.int .i64 3, .string (txt s), .int .i64 0, .int .i64 0] 95)) := (Below.refl _ _).alloc (Nat.le_refl _) _
  have hw1 : SlR (w.alloc (.cells #[.int .i64 3, .string (txt s), .int .i64 0, .int .i64 0] 95)) (w.alloc (.cells #[.int .i64 3, .string (txt s), .int .i64 0, .int .i64 0] 95)).heap.size 4 Tok.Is (.slice (some ⟨w.heap.size, 0, none⟩) 1 1) [⟨3, s, 0, 0⟩] := (SlR.new1 (x := [.int .i64 3, .string (txt s), .int .i64 0, .int .i64 0]) rfl rfl ⟨rfl, hok⟩).more (by simp)
  have JN := Lib.hid (join_any _ _ hw1 (Below.refl _ _) (fun t ht => by simp at ht; subst ht; simp only; omega) (hm.below B0) (hp.below B0))
  rw [join_name] at JN
  have RT : Hid (∀ W, Calls Tryd.prog 59 #[.string (txt s)] W fun e w' => e = .returned (.bool (rightN s)) ∧ Quiet W w') := Lib.hid (fun W => by have h0 := right_any (txt s) (by rw [txt_size]; unfold maxLen; omega) W; rw [bs_txt hb] at h0; exact h0)
  have HB0 := Lib.hid B0
  unfold plain8N
  obtain ⟨r, hr⟩ : ∃ r, rightN s = r := ⟨_, rfl⟩
  obtain ⟨d, hd⟩ : ∃ d, decide (s ∈ wordsL) = d := ⟨_, rfl⟩
  rw [hr, hd] at JN ⊢
  rw [hr] at RT
  clear hm hp hw1 B0 hok hr hd hb hl
  cases r <;> cases d
  · have JX : Hid (Calls Tryd.prog 58 #[.slice (some ⟨w.heap.size, 0, none⟩) 1 1] (w.alloc (.cells #[.int .i64 3, .string (txt s), .int .i64 0, .int .i64 0] 95)) fun e w' => (∃ v, e = .returned (.tuple #[.string v, .int .i64 2])) ∧ Below (w.alloc (.cells #[.int .i64 3, .string (txt s), .int .i64 0, .int .i64 0] 95)).heap.size (w.alloc (.cells #[.int .i64 3, .string (txt s), .int .i64 0, .int .i64 0] 95)) w') := Lib.hid (JN.out.mono fun e w' ⟨he, hb⟩ => ⟨⟨_, he⟩, hb⟩)
    clear JN
    go_enter Tryd.func50, Tryd.ntmps50
    go_wp2_with (first
      | (go_at_call 58; refine JX.out.mono ?_; rintro e w1 ⟨⟨v, rfl⟩, b1⟩; have B1 := Lib.hid b1; clear b1)
      | (go_at_call 59; refine (RT.out _).mono ?_; rintro e w2 ⟨rfl, q2⟩; have Q2 := Lib.hid q2; clear q2))
    go_ret
    exact ⟨rfl, (HB0.out.trans (B1.out.mono HB0.out.size)).trans (Q2.out.below _)⟩
  · have JX : Hid (Calls Tryd.prog 58 #[.slice (some ⟨w.heap.size, 0, none⟩) 1 1] (w.alloc (.cells #[.int .i64 3, .string (txt s), .int .i64 0, .int .i64 0] 95)) fun e w' => (∃ v, e = .returned (.tuple #[.string v, .int .i64 2])) ∧ Below (w.alloc (.cells #[.int .i64 3, .string (txt s), .int .i64 0, .int .i64 0] 95)).heap.size (w.alloc (.cells #[.int .i64 3, .string (txt s), .int .i64 0, .int .i64 0] 95)) w') := Lib.hid (JN.out.mono fun e w' ⟨he, hb⟩ => ⟨⟨_, he⟩, hb⟩)
    clear JN
    go_enter Tryd.func50, Tryd.ntmps50
    go_wp2_with (first
      | (go_at_call 58; refine JX.out.mono ?_; rintro e w1 ⟨⟨v, rfl⟩, b1⟩; have B1 := Lib.hid b1; clear b1)
      | (go_at_call 59; refine (RT.out _).mono ?_; rintro e w2 ⟨rfl, q2⟩; have Q2 := Lib.hid q2; clear q2))
    go_ret
    exact ⟨rfl, (HB0.out.trans (B1.out.mono HB0.out.size)).trans (Q2.out.below _)⟩
  · have JX : Hid (Calls Tryd.prog 58 #[.slice (some ⟨w.heap.size, 0, none⟩) 1 1] (w.alloc (.cells #[.int .i64 3, .string (txt s), .int .i64 0, .int .i64 0] 95)) fun e w' => (∃ v, e = .returned (.tuple #[.string v, .int .i64 0])) ∧ Below (w.alloc (.cells #[.int .i64 3, .string (txt s), .int .i64 0, .int .i64 0] 95)).heap.size (w.alloc (.cells #[.int .i64 3, .string (txt s), .int .i64 0, .int .i64 0] 95)) w') := Lib.hid (JN.out.mono fun e w' ⟨he, hb⟩ => ⟨⟨_, he⟩, hb⟩)
    clear JN
    go_enter Tryd.func50, Tryd.ntmps50
    go_wp2_with (first
      | (go_at_call 58; refine JX.out.mono ?_; rintro e w1 ⟨⟨v, rfl⟩, b1⟩; have B1 := Lib.hid b1; clear b1)
      | (go_at_call 59; refine (RT.out _).mono ?_; rintro e w2 ⟨rfl, q2⟩; have Q2 := Lib.hid q2; clear q2))
    go_ret
    exact ⟨rfl, (HB0.out.trans (B1.out.mono HB0.out.size)).trans (Q2.out.below _)⟩
  · have JX : Hid (Calls Tryd.prog 58 #[.slice (some ⟨w.heap.size, 0, none⟩) 1 1] (w.alloc (.cells #[.int .i64 3, .string (txt s), .int .i64 0, .int .i64 0] 95)) fun e w' => (∃ v, e = .returned (.tuple #[.string v, .int .i64 2])) ∧ Below (w.alloc (.cells #[.int .i64 3, .string (txt s), .int .i64 0, .int .i64 0] 95)).heap.size (w.alloc (.cells #[.int .i64 3, .string (txt s), .int .i64 0, .int .i64 0] 95)) w') := Lib.hid (JN.out.mono fun e w' ⟨he, hb⟩ => ⟨⟨_, he⟩, hb⟩)
    clear JN
    go_enter Tryd.func50, Tryd.ntmps50
    go_wp2_with (first
      | (go_at_call 58; refine JX.out.mono ?_; rintro e w1 ⟨⟨v, rfl⟩, b1⟩; have B1 := Lib.hid b1; clear b1)
      | (go_at_call 59; refine (RT.out _).mono ?_; rintro e w2 ⟨rfl, q2⟩; have Q2 := Lib.hid q2; clear q2))
    go_ret
    exact ⟨rfl, (HB0.out.trans (B1.out.mono HB0.out.size)).trans (Q2.out.below _)⟩
/-- the node's own test, part by part -/
theorem mayE_def (k : Int) (s : List Nat) (n : Int) (ks : List Int) : mayE ⟨k, s, n, ks⟩ = (decide (kidsN k = (ks.length : Int)) && !(decide (n ≠ 0) && decide (k ≠ 1)) && !decide (n = -9223372036854775808) && (if k ∈ namedL then plain8N s else decide (s = []) || (decide (k = 2) && decide (s.length ≤ 4096)))) := rfl
set_option maxRecDepth 100000 in
set_option maxHeartbeats 8000000 in
theorem p_may (k : Int) (s : List Nat) (n : Int) (ks : List Int) (ka : Option Addr) (kn kc : Nat) (hkn : kn = ks.length) (hk63 : kn ≤ 9223372036854775807) (hb : Bytes s) (hl : s.length ≤ 140737488355328) (w : World) (hm : Marks w) (hp : Pow w) :
    Calls Tryd.prog 30 #[.agg #[.int .i64 k, .string (txt s), .int .i64 n, .slice ka kn kc]] w fun e w' => e = .returned (.bool (mayE ⟨k, s, n, ks⟩)) ∧ Below w.heap.size w w' := by
  rw [mayE_def, ← hkn]
  have BX : Hid (Below w.heap.size w (w.alloc (.cells #[.int .i64 k, .string (txt s), .int .i64 n, .slice ka kn kc] 46))) := Lib.hid ((Below.refl _ _).alloc (Nat.le_refl _) _)
  have PN : Hid (∀ W, Below w.heap.size w W → Calls Tryd.prog 50 #[.string (txt s)] W fun e w' => e = .returned (.bool (plain8N s)) ∧ Below W.heap.size W w') := Lib.hid (fun W hW => p_plain s hb hl W (hm.below hW) (hp.below hW))
  have KD : Hid (∀ W, Calls Tryd.prog 48 #[.int .i64 k] W fun e w' => e = .returned (.int .i64 (kidsN k)) ∧ w' = W) := Lib.hid (fun W => p_kids k W)
  obtain ⟨kd, hkd⟩ : ∃ z, kidsN k = z := ⟨_, rfl⟩
  rw [hkd] at KD ⊢
  obtain ⟨nm, hnm⟩ : ∃ b, decide (k ∈ namedL) = b := ⟨_, rfl⟩
  have NM := Lib.hid hnm
  have HS := Lib.hid (And.intro hb hl)
  clear hkd hm hp hkn hb hl
  by_cases h1 : kd = (kn : Int)
  rotate_left
  · have a1 : (kd != (kn : Int)) = true := by simpa using h1
    rw [decide_eq_false h1]
    simp only [Bool.false_and]
    clear h1 hnm
    go_enter Tryd.func30, Tryd.ntmps30
    go_wp2_with fail
    go_quiet ((go_at_call 48; with_reducible exact quiet_callw (KD.out _)))
    go_wp2_with fail
    go_ret
    exact ⟨rfl, below_drewN BX.out _⟩
  subst h1
  have a1 : ((kn : Int) != (kn : Int)) = false := by simp
  rw [decide_eq_true rfl]
  by_cases h2 : n = 0
  · subst h2
    have hmin : decide ((0 : Int) = -9223372036854775808) = false := by decide
    rw [hmin]
    simp only [ne_eq, not_true_eq_false, decide_false, Bool.false_and, Bool.not_false, Bool.true_and]
    clear hmin a1
    cases nm with
    | true =>
      have hin := of_decide_eq_true hnm
      rw [if_pos hin]
      clear hin hnm
      go_enter Tryd.func30, Tryd.ntmps30
      go_wp2_with fail
      go_quiet ((go_at_call 48; with_reducible exact quiet_callw (KD.out _)))
      go_wp2_with (first
            | (go_at_call 49; refine (p_named _ _).mono ?_; rw [NM.out]; rintro e w3 ⟨rfl, rfl⟩)
            | (go_at_call 50; refine (PN.out _ (by exact BX.out.trans ((below_drewN (Below.refl _ _) _)))).mono ?_; rintro e w4 ⟨rfl, b4⟩; have B4 := Lib.hid b4; clear b4))
      go_ret
      exact ⟨rfl, (below_drewN BX.out _).trans (B4.out.mono (by have := BX.out.size; exact this))⟩
    | false =>
      have hin := of_decide_eq_false hnm
      rw [if_neg hin]
      clear hin hnm
      by_cases h5 : s = []
      · subst h5
        have a5 : ((txt []).toList == []) = true := by rw [nil_facts]; rfl
        simp only [decide_true, Bool.true_or]
        go_enter Tryd.func30, Tryd.ntmps30
        go_wp2_with fail
        go_quiet ((go_at_call 48; with_reducible exact quiet_callw (KD.out _)))
        go_wp2_with (first
              | (go_at_call 49; refine (p_named _ _).mono ?_; rw [NM.out]; rintro e w3 ⟨rfl, rfl⟩)
              | (go_at_call 50; refine (PN.out _ (by exact BX.out.trans ((below_drewN (Below.refl _ _) _)))).mono ?_; rintro e w4 ⟨rfl, b4⟩; have B4 := Lib.hid b4; clear b4))
        go_ret
        exact ⟨rfl, below_drewN BX.out _⟩
      · have a5 : ((txt s).toList == []) = false := by rw [beq_eq_false_iff_ne]; exact txt_empty HS.out.1 h5
        rw [decide_eq_false h5, Bool.false_or]
        clear h5
        by_cases h6 : k = 2
        · subst h6
          simp only [decide_true, Bool.true_and]
          obtain ⟨sl, hsl⟩ : ∃ z, s.length = z := ⟨_, rfl⟩
          have a7 : ((txt s).size : Int) = (sl : Int) := by rw [txt_size, hsl]
          rw [hsl]
          clear hsl
          by_cases h7 : sl ≤ 4096
          · have a8 : decide (sl ≤ 4096) = true := by simpa using h7
            have a9 : decide ((sl : Int) ≤ 4096) = true := by simp; omega
            rw [a8]
            clear h7
            go_enter Tryd.func30, Tryd.ntmps30
            go_wp2_with fail
            go_quiet ((go_at_call 48; with_reducible exact quiet_callw (KD.out _)))
            go_wp2_with (first
                  | (go_at_call 49; refine (p_named _ _).mono ?_; rw [NM.out]; rintro e w3 ⟨rfl, rfl⟩)
                  | (go_at_call 50; refine (PN.out _ (by exact BX.out.trans ((below_drewN (Below.refl _ _) _)))).mono ?_; rintro e w4 ⟨rfl, b4⟩; have B4 := Lib.hid b4; clear b4))
            go_ret
            exact ⟨rfl, below_drewN BX.out _⟩
          · have a8 : decide (sl ≤ 4096) = false := by simpa using h7
            have a9 : decide ((sl : Int) ≤ 4096) = false := by simp; omega
            rw [a8]
            clear h7
            go_enter Tryd.func30, Tryd.ntmps30
            go_wp2_with fail
            go_quiet ((go_at_call 48; with_reducible exact quiet_callw (KD.out _)))
            go_wp2_with (first
                  | (go_at_call 49; refine (p_named _ _).mono ?_; rw [NM.out]; rintro e w3 ⟨rfl, rfl⟩)
                  | (go_at_call 50; refine (PN.out _ (by exact BX.out.trans ((below_drewN (Below.refl _ _) _)))).mono ?_; rintro e w4 ⟨rfl, b4⟩; have B4 := Lib.hid b4; clear b4))
            go_ret
            exact ⟨rfl, below_drewN BX.out _⟩
        · have a6 : (k == 2) = false := by simpa using h6
          rw [decide_eq_false h6, Bool.false_and]
          clear h6
          go_enter Tryd.func30, Tryd.ntmps30
          go_wp2_with fail
          go_quiet ((go_at_call 48; with_reducible exact quiet_callw (KD.out _)))
          go_wp2_with (first
                | (go_at_call 49; refine (p_named _ _).mono ?_; rw [NM.out]; rintro e w3 ⟨rfl, rfl⟩)
                | (go_at_call 50; refine (PN.out _ (by exact BX.out.trans ((below_drewN (Below.refl _ _) _)))).mono ?_; rintro e w4 ⟨rfl, b4⟩; have B4 := Lib.hid b4; clear b4))
          go_ret
          exact ⟨rfl, below_drewN BX.out _⟩
  · have a2 : (n != 0) = true := by simpa using h2
    by_cases h3 : k = 1
    · subst h3
      by_cases h4 : n = -9223372036854775808
      · subst h4
        simp only [decide_true, Bool.not_true, Bool.and_false, Bool.false_and]
        clear hnm h2
        go_enter Tryd.func30, Tryd.ntmps30
        go_wp2_with fail
        go_quiet ((go_at_call 48; with_reducible exact quiet_callw (KD.out _)))
        go_wp2_with fail
        go_ret
        exact ⟨rfl, below_drewN BX.out _⟩
      · have a4 : (n == -9223372036854775808) = false := by simpa using h4
        rw [decide_eq_false h4]
        simp only [ne_eq, not_true_eq_false, decide_false, Bool.and_false, Bool.not_false, Bool.true_and]
        clear h2 h4
        cases nm with
        | true =>
          have hin := of_decide_eq_true hnm
          rw [if_pos hin]
          clear hin hnm
          go_enter Tryd.func30, Tryd.ntmps30
          go_wp2_with fail
          go_quiet ((go_at_call 48; with_reducible exact quiet_callw (KD.out _)))
          go_wp2_with (first
                | (go_at_call 49; refine (p_named _ _).mono ?_; rw [NM.out]; rintro e w3 ⟨rfl, rfl⟩)
                | (go_at_call 50; refine (PN.out _ (by exact BX.out.trans ((below_drewN (Below.refl _ _) _)))).mono ?_; rintro e w4 ⟨rfl, b4⟩; have B4 := Lib.hid b4; clear b4))
          go_ret
          exact ⟨rfl, (below_drewN BX.out _).trans (B4.out.mono (by have := BX.out.size; exact this))⟩
        | false =>
          have hin := of_decide_eq_false hnm
          rw [if_neg hin]
          clear hin hnm
          by_cases h5 : s = []
          · subst h5
            have a5 : ((txt []).toList == []) = true := by rw [nil_facts]; rfl
            simp only [decide_true, Bool.true_or]
            go_enter Tryd.func30, Tryd.ntmps30
            go_wp2_with fail
            go_quiet ((go_at_call 48; with_reducible exact quiet_callw (KD.out _)))
            go_wp2_with (first
                  | (go_at_call 49; refine (p_named _ _).mono ?_; rw [NM.out]; rintro e w3 ⟨rfl, rfl⟩)
                  | (go_at_call 50; refine (PN.out _ (by exact BX.out.trans ((below_drewN (Below.refl _ _) _)))).mono ?_; rintro e w4 ⟨rfl, b4⟩; have B4 := Lib.hid b4; clear b4))
            go_ret
            exact ⟨rfl, below_drewN BX.out _⟩
          · have a5 : ((txt s).toList == []) = false := by rw [beq_eq_false_iff_ne]; exact txt_empty HS.out.1 h5
            rw [decide_eq_false h5, Bool.false_or]
            clear h5
            have a6 : decide ((1 : Int) = 2) = false := by decide
            rw [a6, Bool.false_and]
            clear a6
            go_enter Tryd.func30, Tryd.ntmps30
            go_wp2_with fail
            go_quiet ((go_at_call 48; with_reducible exact quiet_callw (KD.out _)))
            go_wp2_with (first
                  | (go_at_call 49; refine (p_named _ _).mono ?_; rw [NM.out]; rintro e w3 ⟨rfl, rfl⟩)
                  | (go_at_call 50; refine (PN.out _ (by exact BX.out.trans ((below_drewN (Below.refl _ _) _)))).mono ?_; rintro e w4 ⟨rfl, b4⟩; have B4 := Lib.hid b4; clear b4))
            go_ret
            exact ⟨rfl, below_drewN BX.out _⟩
    · have a3 : (k != 1) = true := by simpa using h3
      simp only [ne_eq, h2, h3, not_false_eq_true, decide_true, Bool.and_self, Bool.not_true, Bool.and_false, Bool.false_and]
      clear hnm h2 h3
      go_enter Tryd.func30, Tryd.ntmps30
      go_wp2_with fail
      go_quiet ((go_at_call 48; with_reducible exact quiet_callw (KD.out _)))
      go_wp2_with fail
      go_ret
      exact ⟨rfl, below_drewN BX.out _⟩
end Go.Proofs.YtidkbodmiegbkaaDoor
namespace Go.Proofs.YtidkbodmiegbkaaDoor
set_option linter.unusedSimpArgs false
set_option linter.unusedVariables false
open Go.RowKit
/-- how tight a Kind is -/
def levelN (k : Int) : Nat := match signsL.find? (fun x => decide ((x.2.1 : Int) = k)) with
  | some x => x.2.2
  | none => if k = 29 then 3 else 8
/-- the sign of a Kind -/
def markT (k : Int) : List Nat := match signsL.find? (fun x => decide ((x.2.1 : Int) = k)) with
  | some x => x.1
  | none => []
/-- the words, as they are gone through, with their Kinds -/
def tellL : List (List Nat × Nat) := [([116, 114, 117, 101], 3), ([102, 97, 108, 115, 101], 4), ([115, 101, 108, 102], 5), ([110, 111, 110, 101], 6), ([115, 105, 122, 101], 14), ([102, 105, 114, 115, 116], 15), ([116, 101, 120, 116], 16), ([99, 111, 110, 99, 101, 112, 116], 17), ([105, 100], 18), ([105, 110, 116], 19), ([97, 110, 121], 31), ([101, 118, 101, 114, 121], 32), ([111, 110, 108, 121], 33), ([115, 117, 109], 34), ([105, 102], 30)]
/-- the word of a Kind -/
def wordT (k : Int) : List Nat := match tellL.find? (fun x => decide ((x.2 : Int) = k)) with
  | some x => x.1
  | none => []
end Go.Proofs.YtidkbodmiegbkaaDoor
namespace Go.Proofs.YtidkbodmiegbkaaDoor
set_option linter.unusedSimpArgs false
set_option linter.unusedVariables false
open Go.RowKit
/-- the text of a node's part -/
def kidT (g : Nat → Nat → List Nat) (d : ND) (i t : Nat) : List Nat := match d.kids[i]? with
  | some k => g k.toNat t
  | none => []
/-- a node's text without brackets -/
def bodyT (g : Nat → Nat → List Nat) (d : ND) : List Nat :=
  if d.kind = 1 then showN d.num
  else if d.kind = 2 then quoteN d.text
  else if d.kind = 7 then d.text
  else if levelN d.kind = 7 then kidT g d 0 7 ++ (markT d.kind ++ d.text)
  else if d.kind = 29 then [110, 111, 116, 32] ++ kidT g d 0 3
  else if levelN d.kind < 7 then kidT g d 0 (if levelN d.kind = 4 then 5 else levelN d.kind) ++ (([32] ++ markT d.kind) ++ [32]) ++ kidT g d 1 (levelN d.kind + 1)
  else if d.kind = 30 then [105, 102, 32] ++ kidT g d 0 0 ++ [32, 116, 104, 101, 110, 32] ++ kidT g d 1 0 ++ [32, 101, 108, 115, 101, 32] ++ kidT g d 2 0 ++ [32, 101, 110, 100]
  else if 31 ≤ d.kind then (((wordT d.kind ++ [32]) ++ d.text) ++ [32, 105, 110, 32]) ++ kidT g d 0 0 ++ [58, 32] ++ kidT g d 1 0 ++ [32, 101, 110, 100]
  else if d.kids.length = 1 then (wordT d.kind ++ [40]) ++ kidT g d 0 0 ++ [41]
  else wordT d.kind
/-- a node's text, in brackets if it is not as tight as that -/
def tellN (l : List ND) : Nat → Nat → Nat → List Nat
  | 0, _, _ => []
  | f + 1, m, t => match l[m]? with
    | none => []
    | some d => if levelN d.kind < t then [40] ++ bodyT (tellN l f) d ++ [41] else bodyT (tellN l f) d
end Go.Proofs.YtidkbodmiegbkaaDoor
namespace Go.Proofs.YtidkbodmiegbkaaDoor
set_option linter.unusedSimpArgs false
set_option linter.unusedVariables false
open Go.RowKit
theorem right_met {l : List ND} (h : rightE l = 0) : l.length ≤ 256 ∧ ∃ r, metN l l.length 0 = some r ∧ r.2 = l.length ∧ r.1 ≤ 32 := by
  unfold rightE at h
  split at h
  · cases h
  · rename_i hl
    refine ⟨by omega, ?_⟩
    cases hr : metN l l.length 0 with
    | none => rw [hr] at h; cases h
    | some r =>
      rw [hr] at h
      simp only at h
      split at h
      · cases h
      · rename_i h2
        split at h
        · cases h
        · exact ⟨r, rfl, by omega, by omega⟩
end Go.Proofs.YtidkbodmiegbkaaDoor
namespace Go.Proofs.YtidkbodmiegbkaaDoor
set_option linter.unusedSimpArgs false
set_option linter.unusedVariables false
/-- which nodes may be, by their kinds -/
inductive Shape : Nat → List Nat → Int → List Tr → Prop
  | int {n : Int} : n ≠ -9223372036854775808 → Shape 1 [] n []
  | text {s : List Nat} : s.length ≤ 4096 → Shape 2 s 0 []
  | name {s : List Nat} : plain8N s = true → Shape 7 s 0 []
  | zero {y : List Nat × Nat × Nat} : y ∈ onesL → y.2.2 = 0 → Shape y.2.1 [] 0 []
  | post {x : List Nat × Nat × Nat} {s : List Nat} {a : Tr} : x ∈ signsL → x.2.2 = 7 → x.2.1 ≠ 11 → plain8N s = true → Shape x.2.1 s 0 [a]
  | parent {a : Tr} : Shape 11 [] 0 [a]
  | not_ {a : Tr} : Shape 29 [] 0 [a]
  | one {y : List Nat × Nat × Nat} {a : Tr} : y ∈ onesL → y.2.2 = 1 → Shape y.2.1 [] 0 [a]
  | bin {x : List Nat × Nat × Nat} {a b : Tr} : x ∈ signsL → x.2.2 < 7 → Shape x.2.1 [] 0 [a, b]
  | iff {a b c : Tr} : Shape 30 [] 0 [a, b, c]
  | loop {y : List Nat × Nat × Nat} {s : List Nat} {a b : Tr} : y ∈ onesL → y.2.2 = 2 → plain8N s = true → Shape y.2.1 s 0 [a, b]
/-- what a node of a tree holds -/
def Node (k : Nat) (s : List Nat) (n : Int) (ks : List Tr) : Prop := Shape k s n ks ∧ Bytes s ∧ -9223372036854775808 ≤ n ∧ n ≤ 9223372036854775807
mutual
/-- a tree of nodes that may be -/
def Tr.Good : Tr → Prop
  | .node k s n ks => Node k s n ks ∧ GoodL ks
def GoodL : List Tr → Prop
  | [] => True
  | t :: ts => t.Good ∧ GoodL ts
end
theorem list1 {β : Type} {ts : List β} (e : ts.length = 1) : ∃ a, ts = [a] := by
  match ts, e with
  | [a], _ => exact ⟨a, rfl⟩
theorem list2 {β : Type} {ts : List β} (e : ts.length = 2) : ∃ a b, ts = [a, b] := by
  match ts, e with
  | [a, b], _ => exact ⟨a, b, rfl⟩
theorem list3 {β : Type} {ts : List β} (e : ts.length = 3) : ∃ a b c, ts = [a, b, c] := by
  match ts, e with
  | [a, b, c], _ => exact ⟨a, b, c, rfl⟩
set_option maxHeartbeats 4000000 in
/-- a node that may be has one of the shapes -/
theorem shape_of {k : Nat} {s : List Nat} {n : Int} {ks : List Int} {ts : List Tr} (hl : ts.length = ks.length) (h : mayE ⟨(k : Int), s, n, ks⟩ = true) : Shape k s n ts := by
  rw [mayE_def, Bool.and_eq_true, Bool.and_eq_true, Bool.and_eq_true, ← hl] at h
  obtain ⟨⟨⟨h1, h2⟩, h3⟩, h4⟩ := h
  have h1 := of_decide_eq_true h1
  have hn : n ≠ -9223372036854775808 := by simpa using h3
  have hk : 1 ≤ k ∧ k ≤ 34 := by
    unfold kidsN at h1
    repeat' split at h1
    all_goals omega
  have hz : k ≠ 1 → n = 0 := by
    intro hk1
    rcases Classical.em (n = 0) with e | e
    · exact e
    · have e1 : ((k : Int) ≠ 1) := by omega
      rw [decide_eq_true e, decide_eq_true e1] at h2
      cases h2
  have nm : ∀ {m : Nat}, (m : Int) ∈ namedL → k = m → plain8N s = true := by
    intro m hm e
    subst e
    rw [if_pos hm] at h4
    exact h4
  have un : ∀ {m : Nat}, ¬ ((m : Int) ∈ namedL) → m ≠ 2 → k = m → s = [] := by
    intro m hm h2 e
    subst e
    rw [if_neg hm, decide_eq_false (p := ((k : Int) = 2)) (by omega)] at h4
    simpa using h4
  have hks : ∀ {m : Nat} {c : Nat}, kidsN (m : Int) = (c : Int) → k = m → ts.length = c := by
    intro m c hc e
    subst e
    rw [hc] at h1
    omega
  have hcases : k = 1 ∨ k = 2 ∨ k = 3 ∨ k = 4 ∨ k = 5 ∨ k = 6 ∨ k = 7 ∨ k = 8 ∨ k = 9 ∨ k = 10 ∨ k = 11 ∨ k = 12 ∨ k = 13 ∨ k = 14 ∨ k = 15 ∨ k = 16 ∨ k = 17 ∨ k = 18 ∨ k = 19 ∨ k = 20 ∨ k = 21 ∨ k = 22 ∨ k = 23 ∨ k = 24 ∨ k = 25 ∨ k = 26 ∨ k = 27 ∨ k = 28 ∨ k = 29 ∨ k = 30 ∨ k = 31 ∨ k = 32 ∨ k = 33 ∨ k = 34 := by omega
  have zeroC : ∀ y ∈ onesL, y.2.2 = 0 → ¬ ((y.2.1 : Nat) : Int) ∈ namedL ∧ y.2.1 ≠ 2 ∧ y.2.1 ≠ 1 ∧ kidsN ((y.2.1 : Nat) : Int) = ((0 : Nat) : Int) := by decide
  have oneC : ∀ y ∈ onesL, y.2.2 = 1 → ¬ ((y.2.1 : Nat) : Int) ∈ namedL ∧ y.2.1 ≠ 2 ∧ y.2.1 ≠ 1 ∧ kidsN ((y.2.1 : Nat) : Int) = ((1 : Nat) : Int) := by decide
  have loopC : ∀ y ∈ onesL, y.2.2 = 2 → ((y.2.1 : Nat) : Int) ∈ namedL ∧ y.2.1 ≠ 1 ∧ kidsN ((y.2.1 : Nat) : Int) = ((2 : Nat) : Int) := by decide
  have binC : ∀ x ∈ signsL, x.2.2 < 7 → ¬ ((x.2.1 : Nat) : Int) ∈ namedL ∧ x.2.1 ≠ 2 ∧ x.2.1 ≠ 1 ∧ kidsN ((x.2.1 : Nat) : Int) = ((2 : Nat) : Int) := by decide
  have postC : ∀ x ∈ signsL, x.2.2 = 7 → x.2.1 ≠ 11 → ((x.2.1 : Nat) : Int) ∈ namedL ∧ x.2.1 ≠ 1 ∧ kidsN ((x.2.1 : Nat) : Int) = ((1 : Nat) : Int) := by decide
  have zero : ∀ y ∈ onesL, y.2.2 = 0 → k = y.2.1 → Shape k s n ts := by
    intro y hy h0 e
    obtain ⟨c1, c2, c3, c4⟩ := zeroC y hy h0
    rw [un c1 c2 e, hz (by omega), List.eq_nil_of_length_eq_zero (hks c4 e), e]
    exact .zero hy h0
  have one : ∀ y ∈ onesL, y.2.2 = 1 → k = y.2.1 → Shape k s n ts := by
    intro y hy h0 e
    obtain ⟨c1, c2, c3, c4⟩ := oneC y hy h0
    obtain ⟨a, ha⟩ := list1 (hks c4 e)
    rw [un c1 c2 e, hz (by omega), ha, e]
    exact .one hy h0
  have loop : ∀ y ∈ onesL, y.2.2 = 2 → k = y.2.1 → Shape k s n ts := by
    intro y hy h0 e
    obtain ⟨c1, c2, c3⟩ := loopC y hy h0
    obtain ⟨a, b, ha⟩ := list2 (hks c3 e)
    have hp := nm c1 e
    rw [hz (by omega), ha, e]
    exact .loop hy h0 hp
  have bin : ∀ x ∈ signsL, x.2.2 < 7 → k = x.2.1 → Shape k s n ts := by
    intro x hx h0 e
    obtain ⟨c1, c2, c3, c4⟩ := binC x hx h0
    obtain ⟨a, b, ha⟩ := list2 (hks c4 e)
    rw [un c1 c2 e, hz (by omega), ha, e]
    exact .bin hx h0
  have post : ∀ x ∈ signsL, x.2.2 = 7 → x.2.1 ≠ 11 → k = x.2.1 → Shape k s n ts := by
    intro x hx h0 h11 e
    obtain ⟨c1, c2, c3⟩ := postC x hx h0 h11
    obtain ⟨a, ha⟩ := list1 (hks c3 e)
    have hp := nm c1 e
    rw [hz (by omega), ha, e]
    exact .post hx h0 h11 hp
  have fz : ∀ m ∈ [3, 4, 5, 6], ∃ y ∈ onesL, y.2.2 = 0 ∧ m = y.2.1 := by decide
  have fo : ∀ m ∈ [14, 15, 16, 17, 18, 19], ∃ y ∈ onesL, y.2.2 = 1 ∧ m = y.2.1 := by decide
  have fl : ∀ m ∈ [31, 32, 33, 34], ∃ y ∈ onesL, y.2.2 = 2 ∧ m = y.2.1 := by decide
  have fb : ∀ m ∈ [20, 21, 22, 23, 24, 25, 26, 27, 28], ∃ x ∈ signsL, x.2.2 < 7 ∧ m = x.2.1 := by decide
  have fp : ∀ m ∈ [8, 9, 10, 12, 13], ∃ x ∈ signsL, x.2.2 = 7 ∧ x.2.1 ≠ 11 ∧ m = x.2.1 := by decide
  have hsplit : k = 1 ∨ k = 2 ∨ k = 7 ∨ k = 11 ∨ k = 29 ∨ k = 30 ∨ k ∈ [3, 4, 5, 6] ∨ k ∈ [14, 15, 16, 17, 18, 19] ∨ k ∈ [31, 32, 33, 34] ∨ k ∈ [20, 21, 22, 23, 24, 25, 26, 27, 28] ∨ k ∈ [8, 9, 10, 12, 13] := by
    simp only [List.mem_cons, List.not_mem_nil, or_false]
    omega
  rcases hsplit with e | e | e | e | e | e | e | e | e | e | e
  · have hs : s = [] := un (m := 1) (by decide) (by decide) e
    have ht : ts.length = 0 := hks (m := 1) (c := 0) (by decide) e
    rw [hs, List.eq_nil_of_length_eq_zero ht, e]
    exact .int hn
  · have ht : ts.length = 0 := hks (m := 2) (c := 0) (by decide) e
    rw [hz (by omega), List.eq_nil_of_length_eq_zero ht]
    subst e
    refine .text ?_
    rw [if_neg (by decide)] at h4
    rw [Bool.or_eq_true, Bool.and_eq_true] at h4
    rcases h4 with h4 | h4
    · rw [of_decide_eq_true h4]; simp
    · exact of_decide_eq_true h4.2
  · have ht : ts.length = 0 := hks (m := 7) (c := 0) (by decide) e
    have hp : plain8N s = true := nm (m := 7) (by decide) e
    rw [hz (by omega), List.eq_nil_of_length_eq_zero ht, e]
    exact .name hp
  · have hs : s = [] := un (m := 11) (by decide) (by decide) e
    obtain ⟨a, ht⟩ := list1 (hks (m := 11) (c := 1) (by decide) e)
    rw [hs, hz (by omega), ht, e]
    exact .parent
  · have hs : s = [] := un (m := 29) (by decide) (by decide) e
    obtain ⟨a, ht⟩ := list1 (hks (m := 29) (c := 1) (by decide) e)
    rw [hs, hz (by omega), ht, e]
    exact .not_
  · have hs : s = [] := un (m := 30) (by decide) (by decide) e
    obtain ⟨a, b, c, ht⟩ := list3 (hks (m := 30) (c := 3) (by decide) e)
    rw [hs, hz (by omega), ht, e]
    exact .iff
  · obtain ⟨y, h1, h2, h3⟩ := fz k e
    exact zero y h1 h2 h3
  · obtain ⟨y, h1, h2, h3⟩ := fo k e
    exact one y h1 h2 h3
  · obtain ⟨y, h1, h2, h3⟩ := fl k e
    exact loop y h1 h2 h3
  · obtain ⟨y, h1, h2, h3⟩ := fb k e
    exact bin y h1 h2 h3
  · obtain ⟨y, h1, h2, h4, h3⟩ := fp k e
    exact post y h1 h2 h4 h3
/-- and what has one of the shapes may be -/
theorem may_of {k : Nat} {s : List Nat} {n : Int} {ks : List Int} {ts : List Tr} (hl : ts.length = ks.length) (h : Shape k s n ts) : mayE ⟨(k : Int), s, n, ks⟩ = true := by
  rw [mayE_def, ← hl]
  have zeroC : ∀ y ∈ onesL, y.2.2 = 0 → ¬ ((y.2.1 : Nat) : Int) ∈ namedL ∧ kidsN ((y.2.1 : Nat) : Int) = ((0 : Nat) : Int) := by decide
  have oneC : ∀ y ∈ onesL, y.2.2 = 1 → ¬ ((y.2.1 : Nat) : Int) ∈ namedL ∧ kidsN ((y.2.1 : Nat) : Int) = ((1 : Nat) : Int) := by decide
  have loopC : ∀ y ∈ onesL, y.2.2 = 2 → ((y.2.1 : Nat) : Int) ∈ namedL ∧ kidsN ((y.2.1 : Nat) : Int) = ((2 : Nat) : Int) := by decide
  have binC : ∀ x ∈ signsL, x.2.2 < 7 → ¬ ((x.2.1 : Nat) : Int) ∈ namedL ∧ kidsN ((x.2.1 : Nat) : Int) = ((2 : Nat) : Int) := by decide
  have postC : ∀ x ∈ signsL, x.2.2 = 7 → x.2.1 ≠ 11 → ((x.2.1 : Nat) : Int) ∈ namedL ∧ kidsN ((x.2.1 : Nat) : Int) = ((1 : Nat) : Int) := by decide
  cases h with
  | int h => simp [h]; decide
  | text h =>
    rw [if_neg (by decide), decide_eq_true h]
    simp
    decide
  | name h => rw [if_pos (by decide), h]; decide
  | zero hy h0 =>
    obtain ⟨c1, c2⟩ := zeroC _ hy h0
    rw [if_neg c1, c2]
    simp
  | post hx h0 h11 hp =>
    obtain ⟨c1, c2⟩ := postC _ hx h0 h11
    rw [if_pos c1, c2, hp]
    simp
  | parent => rfl
  | not_ => rfl
  | one hy h0 =>
    obtain ⟨c1, c2⟩ := oneC _ hy h0
    rw [if_neg c1, c2]
    simp
  | bin hx h0 =>
    obtain ⟨c1, c2⟩ := binC _ hx h0
    rw [if_neg c1, c2]
    simp
  | iff => rfl
  | loop hy h0 hp =>
    obtain ⟨c1, c2⟩ := loopC _ hy h0
    rw [if_pos c1, c2, hp]
    simp
/-- a node's text, by its parts' texts -/
def bodyG (k : Int) (s : List Nat) (n : Int) (c : Nat) (g : Nat → Nat → List Nat) : List Nat :=
  if k = 1 then showN n
  else if k = 2 then quoteN s
  else if k = 7 then s
  else if levelN k = 7 then g 0 7 ++ (markT k ++ s)
  else if k = 29 then [110, 111, 116, 32] ++ g 0 3
  else if levelN k < 7 then g 0 (if levelN k = 4 then 5 else levelN k) ++ (([32] ++ markT k) ++ [32]) ++ g 1 (levelN k + 1)
  else if k = 30 then [105, 102, 32] ++ g 0 0 ++ [32, 116, 104, 101, 110, 32] ++ g 1 0 ++ [32, 101, 108, 115, 101, 32] ++ g 2 0 ++ [32, 101, 110, 100]
  else if 31 ≤ k then (((wordT k ++ [32]) ++ s) ++ [32, 105, 110, 32]) ++ g 0 0 ++ [58, 32] ++ g 1 0 ++ [32, 101, 110, 100]
  else if c = 1 then (wordT k ++ [40]) ++ g 0 0 ++ [41]
  else wordT k
def kidG (gs : List (Nat → List Nat)) (i t : Nat) : List Nat := match gs[i]? with
  | some g => g t
  | none => []
mutual
/-- a tree's text -/
def tellT : Tr → Nat → List Nat
  | .node k s n ks => fun t => if levelN (k : Int) < t then [40] ++ bodyG k s n ks.length (kidG (tellTL ks)) ++ [41] else bodyG k s n ks.length (kidG (tellTL ks))
def tellTL : List Tr → List (Nat → List Nat)
  | [] => []
  | t :: ts => tellT t :: tellTL ts
end
theorem body_g (g : Nat → Nat → List Nat) (d : ND) : bodyT g d = bodyG d.kind d.text d.num d.kids.length (kidT g d) := rfl
theorem places_len : ∀ (ts : List Tr) (p : Nat), (placesL ts p).length = ts.length
  | [], _ => rfl
  | t :: ts, p => by simp only [placesL, List.length_cons, places_len ts]
/-- the nodes of a tree, as they may come in -/
def ndsT (t : Tr) (p : Nat) : List ND := (t.flat p).map EN.nd
def ndsL (ts : List Tr) (p : Nat) : List ND := (flatL ts p).map EN.nd
theorem nds_len (t : Tr) (p : Nat) : (ndsT t p).length = t.size := by unfold ndsT; rw [List.length_map, trFlat_len]
/-- where a tree stands in a list -/
def Stands (l : List ND) (t : Tr) (p : Nat) : Prop := (l.drop p).take t.size = ndsT t p
def StandsL (l : List ND) (ts : List Tr) (p : Nat) : Prop := (l.drop p).take (sizeL ts) = ndsL ts p
theorem StandsL.nil (l : List ND) (p : Nat) : StandsL l [] p := by simp [StandsL, sizeL, ndsL, flatL]
theorem StandsL.cons {l : List ND} {t : Tr} {ts : List Tr} {p : Nat} (h1 : Stands l t p) (h2 : StandsL l ts (p + t.size)) : StandsL l (t :: ts) p := by
  unfold StandsL Stands ndsL ndsT at *
  simp only [sizeL, flatL, List.map_append]
  rw [List.take_add, h1, List.drop_drop, h2]
/-- what the parts' reading gives, as trees -/
theorem metL_tree {l : List ND} {g : Nat → Option (Nat × Nat)} {T : Nat → Nat → List Nat} (hg : ∀ n r, g n = some r → ∃ t : Tr, t.Good ∧ r = (t.deep, n + t.size) ∧ Stands l t n ∧ ∀ m, T n m = tellT t m) :
    ∀ (ks : List Int) (n dp : Nat) (r : Nat × Nat), metL g ks n dp = some r → ∃ ts : List Tr, GoodL ts ∧ r = (max dp (deepL ts), n + sizeL ts) ∧ ks = (placesL ts n).map (fun n : Nat => (n : Int)) ∧ StandsL l ts n ∧ ∀ (d : ND), d.kids = ks → ∀ i m, kidT T d i m = kidG (tellTL ts) i m
  | [], n, dp, r, h => by
    simp only [metL] at h
    injection h with h
    refine ⟨[], trivial, by rw [← h]; simp [deepL, sizeL], rfl, StandsL.nil _ _, fun d hd i m => ?_⟩
    unfold kidT kidG
    rw [hd]
    simp [tellTL]
  | k :: ks, n, dp, r, h => by
    simp only [metL] at h
    split at h
    · rename_i e
      split at h
      · cases h
      · rename_i x hx
        obtain ⟨t, h1, h2, h3, h4⟩ := hg n x hx
        subst h2
        obtain ⟨ts, g1, g2, g3, g4, g5⟩ := metL_tree hg ks _ _ r h
        refine ⟨t :: ts, ⟨h1, g1⟩, ?_, ?_, StandsL.cons h3 g4, fun d hd i m => ?_⟩
        · rw [g2]
          simp only [deepL, sizeL, Prod.mk.injEq]
          constructor <;> omega
        · rw [e, g3]; rfl
        · unfold kidT kidG
          rw [hd]
          cases i with
          | zero =>
            simp only [tellTL, List.getElem?_cons_zero]
            rw [e, Int.toNat_natCast]
            exact h4 m
          | succ i =>
            have := g5 ⟨0, [], 0, ks⟩ rfl i m
            unfold kidT kidG at this
            simp only [tellTL, List.getElem?_cons_succ]
            exact this
    · cases h
theorem kind_nat {d : ND} (h : mayE d = true) : ∃ k : Nat, d.kind = (k : Int) := by
  obtain ⟨k, s, n, ks⟩ := d
  rw [mayE_def, Bool.and_eq_true, Bool.and_eq_true, Bool.and_eq_true] at h
  have h1 := of_decide_eq_true h.1.1.1
  refine ⟨k.toNat, ?_⟩
  simp only
  unfold kidsN at h1
  repeat' split at h1
  all_goals omega
/-- a node and all below it, as a tree -/
theorem metN_tree (l : List ND) (hok : ∀ d ∈ l, NdOk d) : ∀ (f p : Nat) (r : Nat × Nat), metN l f p = some r → ∃ t : Tr, t.Good ∧ r = (t.deep, p + t.size) ∧ Stands l t p ∧ ∀ m, tellN l f p m = tellT t m
  | 0, p, r, h => by simp only [metN] at h; cases h
  | f + 1, p, r, h => by
    simp only [metN] at h
    cases hd : l[p]? with
    | none => rw [hd] at h; cases h
    | some d =>
      rw [hd] at h
      simp only at h
      by_cases hm : mayE d = true
      · rw [if_pos hm] at h
        obtain ⟨x, hx, rfl⟩ := Option.map_eq_some_iff.1 h
        obtain ⟨ts, g1, g2, g3, g4, g5⟩ := metL_tree (l := l) (T := tellN l f) (fun n r hr => metN_tree l hok f n r hr) d.kids (p + 1) 0 x hx
        obtain ⟨k, hk⟩ := kind_nat hm
        have hmem : d ∈ l := List.mem_iff_getElem?.2 ⟨p, hd⟩
        obtain ⟨b1, b2, b3, b4⟩ := hok d hmem
        have g5' := g5 d rfl
        obtain ⟨dk, ds, dn, dks⟩ := d
        simp only at hk g3 b1 b3 b4
        subst hk
        have hlen : ts.length = dks.length := by rw [g3, List.length_map, places_len]
        refine ⟨.node k ds dn ts, ⟨⟨shape_of hlen hm, b1, b3, b4⟩, g1⟩, ?_, ?_, fun m => ?_⟩
        · rw [g2]
          simp only [Tr.deep, Tr.size, Nat.zero_max, Prod.mk.injEq, true_and]
          omega
        · unfold Stands ndsT
          simp only [Tr.size, Tr.flat, List.map_cons]
          have hp := (List.getElem?_eq_some_iff.1 hd).1
          have hpe := (List.getElem?_eq_some_iff.1 hd).2
          rw [List.drop_eq_getElem_cons hp, Nat.add_comm 1, List.take_succ_cons, hpe]
          unfold StandsL ndsL at g4
          rw [g4]
          congr 1
          rw [g3]
          rfl
        · rw [tellN, hd]
          simp only
          rw [body_g]
          simp only
          rw [← hlen, show kidT (tellN l f) ⟨k, ds, dn, dks⟩ = kidG (tellTL ts) from funext fun i => funext fun m => g5' i m]
          simp only [tellT]
      · rw [if_neg hm] at h; cases h
/-- a right list is a tree's -/
theorem right_tree {l : List ND} (hok : ∀ d ∈ l, NdOk d) (h : rightE l = 0) : ∃ t : Tr, t.Good ∧ t.deep ≤ 32 ∧ t.size ≤ 256 ∧ l = ndsT t 0 ∧ ∀ m, tellN l l.length 0 m = tellT t m := by
  obtain ⟨h1, r, h2, h3, h4⟩ := right_met h
  obtain ⟨t, g1, g2, g3, g4⟩ := metN_tree l hok _ _ _ h2
  subst g2
  simp only at h3 h4
  rw [Nat.zero_add] at h3
  refine ⟨t, g1, h4, by omega, ?_, g4⟩
  unfold Stands at g3
  rw [List.drop_zero, List.take_of_length_le (by omega)] at g3
  exact g3
mutual
theorem met_of {l : List ND} : ∀ (t : Tr) (f p : Nat), t.size ≤ f → t.Good → Stands l t p → metN l f p = some (t.deep, p + t.size) ∧ ∀ m, tellN l f p m = tellT t m
  | .node k s n ks, 0, p, hf, _, _ => by simp only [Tr.size] at hf; omega
  | .node k s n ks, f + 1, p, hf, hg, hs => by
    simp only [Tr.size] at hf
    obtain ⟨⟨hsh, hb⟩, hgl⟩ := hg
    have hs' := hs
    unfold Stands ndsT at hs
    simp only [Tr.size, Tr.flat, List.map_cons] at hs
    have h0 : l[p]? = some (EN.nd ⟨k, s, n, placesL ks (p + 1)⟩) := by
      have := congrArg List.head? hs
      rw [Nat.add_comm, List.head?_take, if_neg (by omega), List.head?_drop] at this
      exact this
    have htl : StandsL l ks (p + 1) := by
      have := congrArg (List.drop 1) hs
      rw [List.drop_take, List.drop_drop, Nat.add_sub_cancel_left] at this
      exact this
    have hlen : ks.length = ((placesL ks (p + 1)).map (fun n : Nat => (n : Int))).length := by rw [List.length_map, places_len]
    have hmay := may_of hlen hsh
    obtain ⟨k1, k2⟩ := metL_of ks f (p + 1) 0 (by omega) hgl htl
    refine ⟨?_, fun m => ?_⟩
    · rw [metN, h0]
      simp only
      rw [if_pos (show mayE (EN.nd ⟨k, s, n, placesL ks (p + 1)⟩) = true from hmay)]
      show Option.map _ (metL (metN l f) ((placesL ks (p + 1)).map (fun n : Nat => (n : Int))) (p + 1) 0) = _
      rw [k1]
      simp only [Option.map_some, Tr.deep, Tr.size, Nat.zero_max, Option.some.injEq, Prod.mk.injEq, true_and]
      omega
    · rw [tellN, h0]
      simp only
      rw [body_g]
      have e : kidT (tellN l f) (EN.nd ⟨k, s, n, placesL ks (p + 1)⟩) = kidG (tellTL ks) := funext fun i => funext fun m => k2 (EN.nd ⟨k, s, n, placesL ks (p + 1)⟩) rfl i m
      rw [e]
      show (if levelN (k : Int) < m then [40] ++ bodyG k s n ((placesL ks (p + 1)).map (fun n : Nat => (n : Int))).length (kidG (tellTL ks)) ++ [41] else bodyG k s n ((placesL ks (p + 1)).map (fun n : Nat => (n : Int))).length (kidG (tellTL ks))) = _
      rw [← hlen]
      simp only [tellT]
theorem metL_of {l : List ND} : ∀ (ts : List Tr) (f p dp : Nat), sizeL ts ≤ f → GoodL ts → StandsL l ts p → metL (metN l f) ((placesL ts p).map (fun n : Nat => (n : Int))) p dp = some (max dp (deepL ts), p + sizeL ts) ∧ ∀ (d : ND), d.kids = (placesL ts p).map (fun n : Nat => (n : Int)) → ∀ i m, kidT (tellN l f) d i m = kidG (tellTL ts) i m
  | [], f, p, dp, _, _, _ => by
    refine ⟨by simp [placesL, metL, deepL, sizeL], fun d hd i m => ?_⟩
    unfold kidT kidG
    rw [hd]
    simp [placesL, tellTL]
  | t :: ts, f, p, dp, hf, hg, hs => by
    simp only [sizeL] at hf
    have hs0 := hs
    unfold StandsL ndsL at hs
    simp only [sizeL, flatL, List.map_append] at hs
    rw [List.take_add] at hs
    have hln : ((l.drop p).take t.size).length = ((t.flat p).map EN.nd).length := by
      have := congrArg List.length hs
      simp only [List.length_append, List.length_take, List.length_drop, List.length_map, trFlat_len, trFlatL_len] at this ⊢
      omega
    obtain ⟨e1, e2⟩ := List.append_inj hs hln
    rw [List.drop_drop] at e2
    obtain ⟨k1, k2⟩ := met_of t f p (by omega) hg.1 e1
    obtain ⟨k3, k4⟩ := metL_of ts f (p + t.size) (max dp t.deep) (by omega) hg.2 e2
    refine ⟨?_, fun d hd i m => ?_⟩
    · simp only [placesL, List.map_cons, metL]
      rw [if_pos trivial, k1]
      simp only
      rw [k3]
      simp only [deepL, sizeL, Option.some.injEq, Prod.mk.injEq]
      constructor <;> omega
    · unfold kidT kidG
      rw [hd]
      simp only [placesL, List.map_cons, tellTL]
      cases i with
      | zero =>
        simp only [List.getElem?_cons_zero, Int.toNat_natCast]
        exact k2 m
      | succ i =>
        have := k4 ⟨0, [], 0, (placesL ts (p + t.size)).map (fun n : Nat => (n : Int))⟩ rfl i m
        unfold kidT kidG at this
        simp only [List.getElem?_cons_succ]
        exact this
end
/-- a tree's list is right, if it is neither too long nor too deep -/
theorem right_of {t : Tr} (hg : t.Good) (hs : t.size ≤ 256) (hd : t.deep ≤ 32) : rightE (ndsT t 0) = 0 ∧ ∀ m, tellN (ndsT t 0) (ndsT t 0).length 0 m = tellT t m := by
  have hst : Stands (ndsT t 0) t 0 := by
    unfold Stands
    rw [List.drop_zero, List.take_of_length_le (by rw [nds_len]; exact Nat.le_refl _)]
  obtain ⟨h1, h2⟩ := met_of (l := ndsT t 0) t (ndsT t 0).length 0 (by rw [nds_len]; exact Nat.le_refl _) hg hst
  refine ⟨?_, h2⟩
  unfold rightE
  rw [h1, nds_len, if_neg (by omega)]
  simp only
  rw [if_neg (by omega), if_neg (by omega)]
end Go.Proofs.YtidkbodmiegbkaaDoor
namespace Go.Proofs.YtidkbodmiegbkaaDoor
set_option linter.unusedSimpArgs false
set_option linter.unusedVariables false
open Go.RowKit
theorem stands_node {l : List ND} {k : Nat} {s : List Nat} {n : Int} {ks : List Tr} {p : Nat} (h : Stands l (.node k s n ks) p) : l[p]? = some ⟨(k : Int), s, n, (placesL ks (p + 1)).map fun n : Nat => (n : Int)⟩ ∧ StandsL l ks (p + 1) := by
  unfold Stands ndsT at h
  simp only [Tr.flat, Tr.size, List.map_cons] at h
  have h0 : l.drop p ≠ [] := by
    intro e
    rw [e] at h
    simp at h
  obtain ⟨d, r, hd⟩ := List.exists_cons_of_ne_nil h0
  rw [hd, Nat.add_comm, List.take_succ_cons] at h
  injection h with h1 h2
  have hr : r = l.drop (p + 1) := by
    have := congrArg List.tail hd
    rw [List.tail_drop] at this
    exact this.symm
  refine ⟨?_, ?_⟩
  · have := congrArg List.head? hd
    rw [List.head?_drop] at this
    rw [this, List.head?_cons, h1]
    rfl
  · unfold StandsL ndsL
    rw [← hr, h2]
theorem standsL_cons {l : List ND} {t : Tr} {ts : List Tr} {p : Nat} (h : StandsL l (t :: ts) p) : Stands l t p ∧ StandsL l ts (p + t.size) := by
  unfold StandsL ndsL at h
  simp only [flatL, sizeL, List.map_append] at h
  have hl : ((t.flat p).map EN.nd).length = t.size := by rw [List.length_map, trFlat_len]
  constructor
  · unfold Stands ndsT
    have := congrArg (List.take t.size) h
    rw [List.take_take, Nat.min_eq_left (by omega), List.take_left' hl] at this
    exact this
  · unfold StandsL ndsL
    have := congrArg (List.drop t.size) h
    rw [List.drop_take, List.drop_drop, Nat.add_sub_cancel_left, List.drop_left' hl] at this
    exact this
theorem stands_at {l : List ND} : ∀ {ts : List Tr} {p j : Nat} {t : Tr}, StandsL l ts p → ts[j]? = some t → ∃ q, (placesL ts p)[j]? = some q ∧ Stands l t q
  | [], p, j, t, h, e => by cases e
  | u :: ts, p, j, t, h, e => by
    obtain ⟨h1, h2⟩ := standsL_cons h
    cases j with
    | zero => simp at e; subst e; exact ⟨p, rfl, h1⟩
    | succ j => exact stands_at (ts := ts) (j := j) h2 (by simpa using e)
theorem good_at : ∀ {ts : List Tr} {j : Nat} {t : Tr}, GoodL ts → ts[j]? = some t → t.Good
  | [], j, t, h, e => by cases e
  | u :: ts, j, t, h, e => by
    cases j with
    | zero => simp at e; subst e; exact h.1
    | succ j => exact good_at (ts := ts) (j := j) h.2 (by simpa using e)
theorem deep_at : ∀ {ts : List Tr} {j : Nat} {t : Tr}, ts[j]? = some t → t.deep ≤ deepL ts
  | [], j, t, e => by cases e
  | u :: ts, j, t, e => by
    simp only [deepL]
    cases j with
    | zero => simp at e; subst e; omega
    | succ j => have := deep_at (ts := ts) (j := j) (by simpa using e); omega
theorem plain_len {s : List Nat} (h : plain8N s = true) : s.length ≤ 32 := by
  unfold plain8N at h
  simp only [Bool.and_eq_true] at h
  have h1 := h.1
  cases s with
  | nil => simp
  | cons c t =>
    unfold rightN at h1
    simp only [Bool.and_eq_true, decide_eq_true_eq] at h1
    exact h1.1.1
theorem shape_len {k : Nat} {s : List Nat} {n : Int} {ks : List Tr} (h : Shape k s n ks) : s.length ≤ 4096 := by
  cases h with
  | text h => exact h
  | name h => have := plain_len h; omega
  | post _ _ _ h => have := plain_len h; omega
  | loop _ _ h => have := plain_len h; omega
  | _ => simp
theorem kid_form {W0 : World} {l : List ND} {p B : Nat} {ks : List Tr} {ka : Option Addr} {kn kc : Nat} (hkv : SlR W0 B 1 IsI (.slice ka kn kc) ((placesL ks p).map fun n : Nat => (n : Int))) (hst : StandsL l ks p) {j : Nat} {t : Tr} (ht : ks[j]? = some t) : ∃ kb ko, ka = some ⟨kb, ko, none⟩ := by
  obtain ⟨q, hq, hs⟩ := stands_at hst ht
  have hq' : ((placesL ks p).map fun n : Nat => (n : Int))[j]? = some (q : Int) := by rw [List.getElem?_map, hq]; rfl
  obtain ⟨b, off, x, e1, hbB, hxl, rfl, hx⟩ := hkv.at_ hq'
  exact ⟨b, off, e1⟩
end Go.Proofs.YtidkbodmiegbkaaDoor
namespace Go.Proofs.YtidkbodmiegbkaaDoor
set_option linter.unusedSimpArgs false
set_option linter.unusedVariables false
/-- the kinds and their parts -/
theorem shape_cases {k : Nat} {s : List Nat} {n : Int} {ks : List Tr} (h : Shape k s n ks) :
    (ks = [] ∧ 1 ≤ k ∧ k ≤ 7) ∨ (∃ a, ks = [a] ∧ ((8 ≤ k ∧ k ≤ 19) ∨ k = 29)) ∨ (∃ a b, ks = [a, b] ∧ ((20 ≤ k ∧ k ≤ 28) ∨ (31 ≤ k ∧ k ≤ 34))) ∨ (∃ a b c, ks = [a, b, c] ∧ k = 30) := by
  have o0 : ∀ y ∈ onesL, y.2.2 = 0 → 3 ≤ y.2.1 ∧ y.2.1 ≤ 6 := by decide
  have o1 : ∀ y ∈ onesL, y.2.2 = 1 → 14 ≤ y.2.1 ∧ y.2.1 ≤ 19 := by decide
  have o2 : ∀ y ∈ onesL, y.2.2 = 2 → 31 ≤ y.2.1 ∧ y.2.1 ≤ 34 := by decide
  have s1 : ∀ y ∈ signsL, y.2.2 = 7 → 8 ≤ y.2.1 ∧ y.2.1 ≤ 13 := by decide
  have s2 : ∀ y ∈ signsL, y.2.2 < 7 → 20 ≤ y.2.1 ∧ y.2.1 ≤ 28 := by decide
  cases h with
  | int _ => exact .inl ⟨rfl, by omega, by omega⟩
  | text _ => exact .inl ⟨rfl, by omega, by omega⟩
  | name _ => exact .inl ⟨rfl, by omega, by omega⟩
  | zero h1 h2 => have := o0 _ h1 h2; exact .inl ⟨rfl, by omega, by omega⟩
  | post h1 h2 _ _ => have := s1 _ h1 h2; exact .inr (.inl ⟨_, rfl, by omega⟩)
  | parent => exact .inr (.inl ⟨_, rfl, by omega⟩)
  | not_ => exact .inr (.inl ⟨_, rfl, by omega⟩)
  | one h1 h2 => have := o1 _ h1 h2; exact .inr (.inl ⟨_, rfl, by omega⟩)
  | bin h1 h2 => have := s2 _ h1 h2; exact .inr (.inr (.inl ⟨_, _, rfl, by omega⟩))
  | iff => exact .inr (.inr (.inr ⟨_, _, _, rfl, rfl⟩))
  | loop h1 h2 _ => have := o2 _ h1 h2; exact .inr (.inr (.inl ⟨_, _, rfl, by omega⟩))
theorem deep_one {k : Nat} {s : List Nat} {n : Int} {ks : List Tr} {f : Nat} (h : (Tr.node k s n ks).deep ≤ f + 1) : deepL ks ≤ f := by simp only [Tr.deep] at h; omega
end Go.Proofs.YtidkbodmiegbkaaDoor
namespace Go.Proofs.YtidkbodmiegbkaaDoor
set_option linter.unusedSimpArgs false
set_option linter.unusedVariables false
open Go.RowKit
theorem stands_nds (t : Tr) : Stands (ndsT t 0) t 0 := by
  unfold Stands
  rw [List.drop_zero, List.take_of_length_le (by rw [nds_len]; exact Nat.le_refl _)]
end Go.Proofs.YtidkbodmiegbkaaDoor
namespace Go.Proofs.YtidkbodmiegbkaaDoor
set_option linter.unusedSimpArgs false
set_option linter.unusedVariables false
theorem trS_pos : ∀ t : Tr, 1 ≤ t.size
  | .node k s n ks => by simp only [Tr.size]; omega
theorem places_in : ∀ (ts : List Tr) (q x : Nat), x ∈ placesL ts q → q ≤ x ∧ x < q + sizeL ts
  | [], q, x, h => by cases h
  | t :: ts, q, x, h => by
    have ht := trS_pos t
    simp only [placesL, List.mem_cons] at h
    simp only [sizeL]
    rcases h with rfl | h
    · omega
    · have := places_in ts _ x h
      omega
mutual
theorem stands_kids {l : List ND} : ∀ (t : Tr) (p : Nat), Stands l t p → ∀ i d, p ≤ i → i < p + t.size → l[i]? = some d → ∀ x ∈ d.kids, (i : Int) < x ∧ x < ((p + t.size : Nat) : Int)
  | .node k s n ks, p, h, i, d, h1, h2, hd, x, hx => by
    obtain ⟨e1, e2⟩ := stands_node h
    simp only [Tr.size] at h2 ⊢
    by_cases hi : i = p
    · subst hi
      rw [e1] at hd
      injection hd with hd
      subst hd
      obtain ⟨y, hy, rfl⟩ := List.mem_map.1 hx
      have := places_in ks _ y hy
      omega
    · have := standsL_kids ks (p + 1) e2 i d (by omega) (by omega) hd x hx
      omega
theorem standsL_kids {l : List ND} : ∀ (ts : List Tr) (p : Nat), StandsL l ts p → ∀ i d, p ≤ i → i < p + sizeL ts → l[i]? = some d → ∀ x ∈ d.kids, (i : Int) < x ∧ x < ((p + sizeL ts : Nat) : Int)
  | [], p, h, i, d, h1, h2, hd, x, hx => by simp only [sizeL] at h2; omega
  | t :: ts, p, h, i, d, h1, h2, hd, x, hx => by
    obtain ⟨e1, e2⟩ := standsL_cons h
    simp only [sizeL] at h2 ⊢
    by_cases hi : i < p + t.size
    · have := stands_kids t p e1 i d h1 hi hd x hx
      omega
    · have := standsL_kids ts (p + t.size) e2 i d (by omega) (by omega) hd x hx
      omega
end
theorem places_lt : ∀ (ts : List Tr) (p j j' q q' : Nat), (placesL ts p)[j]? = some q → (placesL ts p)[j']? = some q' → j < j' → q < q'
  | [], p, j, j', q, q', h, _, _ => by cases h
  | t :: ts, p, j, j', q, q', h, h', hj => by
    have ht := trS_pos t
    obtain ⟨m, rfl⟩ : ∃ m, j' = m + 1 := ⟨j' - 1, by omega⟩
    simp only [placesL, List.getElem?_cons_succ] at h'
    cases j with
    | zero =>
      simp only [placesL, List.getElem?_cons_zero, Option.some.injEq] at h
      have := places_in ts _ q' (List.mem_iff_getElem?.2 ⟨m, h'⟩)
      omega
    | succ j =>
      simp only [placesL, List.getElem?_cons_succ] at h
      exact places_lt ts _ j m q q' h h' (by omega)
theorem standsL_before {l : List ND} : ∀ (ts : List Tr) (p j q : Nat), StandsL l ts p → (placesL ts p)[j]? = some q → ∀ i d, p ≤ i → i < q → l[i]? = some d → ∀ x ∈ d.kids, x < (q : Int)
  | [], p, j, q, h, hq, i, d, h1, h2, hd, x, hx => by cases hq
  | t :: ts, p, j, q, h, hq, i, d, h1, h2, hd, x, hx => by
    obtain ⟨e1, e2⟩ := standsL_cons h
    cases j with
    | zero => simp only [placesL, List.getElem?_cons_zero, Option.some.injEq] at hq; omega
    | succ j =>
      simp only [placesL, List.getElem?_cons_succ] at hq
      have hin := places_in ts _ q (List.mem_iff_getElem?.2 ⟨j, hq⟩)
      by_cases hi : i < p + t.size
      · have := stands_kids t p e1 i d h1 hi hd x hx
        omega
      · exact standsL_before ts _ j q e2 hq i d (by omega) h2 hd x hx
end Go.Proofs.YtidkbodmiegbkaaDoor
namespace Go.Proofs.YtidkbodmiegbkaaDoor
set_option linter.unusedSimpArgs false
set_option linter.unusedVariables false
open Go.RowKit
theorem rkid_cell {W0 : World} {p B : Nat} {ks : List Tr} {kb ko : Nat} {kn kc : Nat} (hkv : SlR W0 B 1 IsI (.slice (some ⟨kb, ko, none⟩) kn kc) ((placesL ks p).map fun n : Nat => (n : Int))) {j q : Nat} (hq : (placesL ks p)[j]? = some q) {w : World} (hb : Below B W0 w) : w.cell? ⟨kb, ko + j, none⟩ = some (.int .i64 (q : Int)) := by
  have hq' : ((placesL ks p).map fun n : Nat => (n : Int))[j]? = some (q : Int) := by rw [List.getElem?_map, hq]; rfl
  obtain ⟨b, off, x, e1, hbB, hxl, rfl, hx⟩ := (hkv.below hb).at_ hq'
  injection e1 with e1
  injection e1 with e1 e2
  subst e1 e2
  have x0 := hx 0 _ rfl
  simp only [Nat.add_zero, Nat.mul_one] at x0
  exact x0
theorem stands_size {l : List ND} {t : Tr} {p : Nat} (h : Stands l t p) : t.size ≤ l.length := by
  unfold Stands at h
  have := congrArg List.length h
  rw [nds_len, List.length_take, List.length_drop] at this
  omega
end Go.Proofs.YtidkbodmiegbkaaDoor
namespace Go.Proofs.YtidkbodmiegbkaaDoor
set_option linter.unusedSimpArgs false
set_option linter.unusedVariables false
open Go.RowKit
theorem Blk.drwN {w : World} {g : Nat} {t : TypeId} {cs : Array Value} (h : Blk w g t cs) (n : Nat) : Blk (w.drewN n) g t cs := h
end Go.Proofs.YtidkbodmiegbkaaDoor
namespace Go.Proofs.YtidkbodmiegbkaaDoor
set_option linter.unusedSimpArgs false
set_option linter.unusedVariables false
open Go.RowKit
theorem Own1.nil_ {α : Type} (w : World) (base : Nat) (t : TypeId) (size : Nat) (R : List Value → α → Prop) : Own1 w base t size R (.slice none 0 0) ([] : List α) := ⟨[], World.ownsRow_nil _ _ _ _, FlatR.nil_⟩
end Go.Proofs.YtidkbodmiegbkaaDoor
namespace Go.Proofs.YtidkbodmiegbkaaDoor
set_option linter.unusedSimpArgs false
set_option linter.unusedVariables false
open Go.RowKit
theorem Own1.stay {α : Type} {w w' : World} {lo size : Nat} {e : TypeId} {R : List Value → α → Prop} {v : Value} {l : List α} (h : Own1 w lo e size R v l) (hk : ∀ b, v.ownBlock = some b → b < w.heap.size → w'.heap[b]? = w.heap[b]?) : Own1 w' lo e size R v l := by
  obtain ⟨xs, h1, h2⟩ := h
  refine ⟨xs, ⟨h1.1, ?_⟩, h2⟩
  rcases h1.2 with r | ⟨g, cap, cur, r1, r2, r3, r4⟩
  · exact .inl r
  · have hg : g < w.heap.size := by
      rcases Nat.lt_or_ge g w.heap.size with hlt | hge
      · exact hlt
      · rw [Array.getElem?_eq_none hge] at r3; cases r3
    exact .inr ⟨g, cap, cur, r1, r2, (hk g (by rw [r1]; rfl) hg).trans r3, r4⟩
end Go.Proofs.YtidkbodmiegbkaaDoor
namespace Go.Proofs.YtidkbodmiegbkaaDoor
set_option linter.unusedSimpArgs false
set_option linter.unusedVariables false
open Go.RowKit
theorem take_snoc1 {α : Type} {l : List α} {j : Nat} {x : α} (h : l[j]? = some x) : l.take (j + 1) = l.take j ++ [x] := by
  rw [List.take_add_one, h]; rfl
/-- what stands in it, and that it may be written -/
theorem Own1.at00 {α : Type} {w : World} {base size n c : Nat} {e : TypeId} {R : List Value → α → Prop} {l : List α} {a : Option Addr} (h : Own1 w base e size R (.slice a n c) l) (hn : 0 < l.length) (hs : 0 < size) : ∃ g, a = some ⟨g, 0, none⟩ ∧ base ≤ g ∧ g < w.heap.size ∧ (∀ o, w.frozen? ⟨g, o, none⟩ = false) ∧ ∀ (k : Nat) (y : α), l[k]? = some y → ∃ x : List Value, x.length = size ∧ R x y ∧ ∀ (j : Nat) (u : Value), x[j]? = some u → w.cell? ⟨g, k * size + j, none⟩ = some u := by
  have hr := h.read hs
  have hb := h.block
  have hf := h.form
  obtain ⟨xs, h1, h2⟩ := h
  obtain ⟨g, rfl⟩ : ∃ g, a = some ⟨g, 0, none⟩ := by
    rcases h1.2 with ⟨h', h0⟩ | ⟨g', cap', cur, h', _⟩
    · omega
    · injection h' with e1; exact ⟨g', e1⟩
  have hg := hb g rfl
  refine ⟨g, rfl, hg.1, hg.2, fun o => ?_, fun k y hy => ?_⟩
  · obtain ⟨a', c', he⟩ := hf
    injection he with _ e2 e3
    subst e2
    exact h1.frozenAt o
  · obtain ⟨b, off, x, he, _, hx, hR, hc⟩ := hr.at_ hy
    injection he with he
    injection he with e1 e2
    subst e1 e2
    refine ⟨x, hx, hR, fun j u hu => ?_⟩
    have := hc j u hu
    rwa [Nat.zero_add] at this
end Go.Proofs.YtidkbodmiegbkaaDoor
namespace Go.Proofs.YtidkbodmiegbkaaDoor
set_option linter.unusedSimpArgs false
set_option linter.unusedVariables false
open Go.RowKit
theorem info_enode : (Tryd.prog.info? 46).map (fun i => (i.zero, i.size, i.bytes)) = some (some (.agg #[.int .i64 0, .string .empty, .int .i64 0, .slice none 0 0]), 4, 56) := by kernel_rfl
theorem info_int : (Tryd.prog.info? 3).map (fun i => (i.zero, i.size, i.bytes)) = some (some (.int .i64 0), 1, 8) := by kernel_rfl
end Go.Proofs.YtidkbodmiegbkaaDoor
namespace Go.Proofs.YtidkbodmiegbkaaDoor
set_option linter.unusedSimpArgs false
set_option linter.unusedVariables false
open Go.RowKit
/-- a node's cells -/
def IsNDv : List Value → ND × Value → Prop := fun x p => x = [.int .i64 p.1.kind, .string (txt p.1.text), .int .i64 p.1.num, p.2] ∧ ∃ a n c, p.2 = .slice a n c
theorem IsNDv.one : ∀ x y, IsNDv x y → ∀ u ∈ x, u.oneCell' = true := by
  intro x y h u hu
  obtain ⟨rfl, a, n, c, h2⟩ := h
  rw [h2] at hu
  simp at hu
  rcases hu with rfl | rfl | rfl | rfl <;> rfl
theorem IsI.one : ∀ x y, IsI x y → ∀ u ∈ x, u.oneCell' = true := by
  intro x y h u hu
  unfold IsI at h
  subst h
  simp at hu
  subst hu
  rfl
/-- a list of nodes of the call's own -/
structure NL (X : World) (B : Nat) (v : Value) (es : List (ND × Value)) : Prop where
  main : Own1 X B 46 4 IsNDv v es
  kids : ∀ (i : Nat) (p : ND × Value), es[i]? = some p → Own1 X B 3 1 IsI p.2 p.1.kids
section
variable {X X' : World} {B : Nat} {v v' : Value} {es : List (ND × Value)}
theorem NL.nil (X : World) (B : Nat) : NL X B (.slice none 0 0) [] := ⟨⟨[], ⟨rfl, .inl ⟨rfl, rfl⟩⟩, FlatR.nil_⟩, fun i p h => by simp at h⟩
theorem NL.alloc (h : NL X B v es) (o : Obj) : NL (X.alloc o) B v es := ⟨h.main.alloc o, fun i p hp => (h.kids i p hp).alloc o⟩
theorem NL.below (h : NL X B v es) (hb : Below X.heap.size X X') : NL X' B v es :=
  ⟨h.main.stay (fun b _ hl => hb.block b hl), fun i p hp => (h.kids i p hp).stay (fun b _ hl => hb.block b hl)⟩
theorem NL.setFar (h : NL X B v es) {p : Addr} (hp : p.block < B) (u : Value) : NL (X.setCell p u) B v es :=
  ⟨h.main.setFar hp u, fun i q hq => (h.kids i q hq).setFar hp u⟩
/-- a node more, with a row of its own -/
theorem NL.push (h : NL X B v es) {e : ND} {kv : Value} (hk : Own1 X B 3 1 IsI kv e.kids) (hm : Own1 X' B 46 4 IsNDv v' (es ++ [(e, kv)])) (hg : X.grownBy X' v.ownBlock) : NL X' B v' (es ++ [(e, kv)]) := by
  refine ⟨hm, fun i p hp => ?_⟩
  rcases Nat.lt_or_ge i es.length with hl | hl
  · rw [List.getElem?_append_left hl] at hp
    exact (h.kids i p hp).kept1 h.main (by decide) hg
  · rw [List.getElem?_append_right hl] at hp
    have h0 : i - es.length = 0 := by
      rcases Nat.eq_zero_or_pos (i - es.length) with h0 | h0
      · exact h0
      · rw [List.getElem?_eq_none (by simp; omega)] at hp; cases hp
    rw [h0] at hp
    simp at hp
    subst hp
    exact hk.kept1 h.main (by decide) hg
theorem NL.read (h : NL X B v es) : SlR X X.heap.size 4 (ND.Is X X.heap.size) v (es.map (·.1)) := by
  obtain ⟨a, c, rfl, h1, h2, h3⟩ := h.main.read (by omega)
  refine ⟨a, c, by rw [List.length_map], by rw [List.length_map]; exact h1, h2, fun hl => ?_⟩
  rw [List.length_map] at hl
  obtain ⟨b, off, hb, hlt, hat⟩ := h3 hl
  refine ⟨b, off, hb, hlt, fun i y hy => ?_⟩
  rw [List.getElem?_map] at hy
  cases he : es[i]? with
  | none => rw [he] at hy; cases hy
  | some p =>
    rw [he] at hy
    injection hy with hy
    subst hy
    obtain ⟨x, hx, ⟨hR, _⟩, hc⟩ := hat i p he
    exact ⟨x, hx, ⟨p.2, hR, (h.kids i p he).read (by omega)⟩, hc⟩
end
set_option maxRecDepth 100000 in
set_option maxHeartbeats 40000000 in
theorem twin8 {l : List ND} {v : Value} (w w0 : World) (hs : SlR w0 w0.heap.size 4 (ND.Is w0 w0.heap.size) v l) (hl : l.length * 56 ≤ 140737488355328) (hk : ∀ d ∈ l, d.kids.length * 8 ≤ 140737488355328) (hw : Below w0.heap.size w0 w) :
    Calls Tryd.prog 5 #[.agg #[v]] w fun e w' => ∃ v' es, e = .returned (.agg #[v']) ∧ NL w' (w.heap.size + 3) v' es ∧ es.map (·.1) = l ∧ Below w.heap.size w w' := by
  obtain ⟨a, c, rfl⟩ : ∃ a c, v = .slice a l.length c := by obtain ⟨a, c, h, _⟩ := hs.form; exact ⟨a, c, h⟩
  obtain ⟨n, hn⟩ : ∃ n, l.length = n := ⟨_, rfl⟩
  have HN := Lib.hid hn
  rw [hn] at hl ⊢
  have HS := Lib.hid hs
  have HW := Lib.hid hw
  have HKB := Lib.hid hk
  have n63 : (n : Int) ≤ 140737488355328 := by omega
  have BA : Hid (Below w.heap.size w (((w.alloc (.cells #[.slice a n c] 24)).alloc (.cells #[.slice none 0 0] 24)).alloc (.cells #[.slice none 0 0] 24))) := Lib.hid ((((Below.refl _ _).alloc (Nat.le_refl _) _).alloc (by rw [World.size_alloc]; omega) _).alloc (by rw [World.size_alloc, World.size_alloc]; omega) _)
  have KQA : Hid (Blk (((w.alloc (.cells #[.slice a n c] 24)).alloc (.cells #[.slice none 0 0] 24)).alloc (.cells #[.slice none 0 0] 24)) w.heap.size 24 #[.slice a n c]) := Lib.hid (((Blk.new _ _ _).alloc _).alloc _)
  have KRA : Hid (Blk (((w.alloc (.cells #[.slice a n c] 24)).alloc (.cells #[.slice none 0 0] 24)).alloc (.cells #[.slice none 0 0] 24)) (w.heap.size + 1) 24 #[.slice none 0 0]) := Lib.hid ((Blk.new_ (by rw [World.size_alloc]) _ _).alloc _)
  have KOA : Hid (Blk (((w.alloc (.cells #[.slice a n c] 24)).alloc (.cells #[.slice none 0 0] 24)).alloc (.cells #[.slice none 0 0] 24)) (w.heap.size + 2) 24 #[.slice none 0 0]) := Lib.hid (Blk.new_ (by rw [World.size_alloc, World.size_alloc]) _ _)
  obtain ⟨jE, hi, hz, hs2, hby⟩ := info_parts info_enode
  have IE := Lib.hid (And.intro hi (And.intro hz (And.intro hs2 hby)))
  clear hi hz hs2 hby
  obtain ⟨jI, hi, hz, hs2, hby⟩ := info_parts info_int
  have II := Lib.hid (And.intro hi (And.intro hz (And.intro hs2 hby)))
  clear hi hz hs2 hby hs hw hn hk
  go_enter Tryd.func5, Tryd.ntmps5
  go_wp2_with fail
  go_loopw [4, 5] (fun iv _ wr => ∃ (j : Nat) (oa : Option Addr) (oc : Nat) (es : List (ND × Value)), j ≤ n ∧ iv = .int .i64 (j : Int) ∧ Hid (es.map (·.1) = l.take j) ∧ Hid (NL wr (w.heap.size + 3) (.slice oa j oc) es) ∧ Hid (Blk wr w.heap.size 24 #[.slice a n c]) ∧ Hid (Blk wr (w.heap.size + 1) 24 #[.slice none 0 0]) ∧ Hid (Blk wr (w.heap.size + 2) 24 #[.slice oa j oc]) ∧ Hid (Below w.heap.size w wr)) (fun iv _ _ => n - (intOf iv).toNat)
  case atStart => exact ⟨0, none, 0, [], Nat.zero_le _, rfl, Lib.hid rfl, Lib.hid (NL.nil _ _), KQA, KRA, KOA, BA⟩
  case round =>
    obtain ⟨j, oa, oc, es, hj, rfl, HES, HEL, KQ1, KR1, KO1, HB1⟩ := hrel
    clear KQA KRA KOA BA
    obtain ⟨wo, hwo⟩ : ∃ W, W = wr := ⟨wr, rfl⟩
    subst hwo
    have j0 : (0 : Int) ≤ (j : Int) := Int.natCast_nonneg _
    have q0 : wo.cell? ⟨w.heap.size, 0, none⟩ = some (.slice a n c) := KQ1.out.cell (i := 0) rfl
    have o0 : wo.cell? ⟨w.heap.size + 2, 0, none⟩ = some (.slice oa j oc) := KO1.out.cell (i := 0) rfl
    have r0 : wo.cell? ⟨w.heap.size + 1, 0, none⟩ = some (.slice none 0 0) := KR1.out.cell (i := 0) rfl
    have zr := KR1.out.frozen 0
    have lq := KQ1.out.lt
    have lr := KR1.out.lt
    have lo := KO1.out.lt
    by_cases hlt : j < n
    · obtain ⟨d, hd⟩ := get_some HN.out hlt
      have hwr : Below w0.heap.size w0 wo := HW.out.trans (HB1.out.mono HW.out.size)
      obtain ⟨bN, off, x, rfl, hbN, _, ⟨kv, rfl, hks⟩, hx⟩ := (HS.out.below hwr).at_ hd
      obtain ⟨ka, kc, rfl, _⟩ := hks.form
      have hkb := HKB.out d (List.mem_iff_getElem?.2 ⟨j, hd⟩)
      obtain ⟨kn, hkn⟩ : ∃ z, d.kids.length = z := ⟨_, rfl⟩
      rw [hkn] at hks hx hkb
      have x0 : wo.cell? ⟨bN, off + j * 4, none⟩ = some (.int .i64 d.kind) := hx 0 _ rfl
      have x1 : wo.cell? ⟨bN, off + j * 4 + 1, none⟩ = some (.string (txt d.text)) := hx 1 _ rfl
      have x2 : wo.cell? ⟨bN, off + j * 4 + 2, none⟩ = some (.int .i64 d.num) := hx 2 _ rfl
      have x3 : wo.cell? ⟨bN, off + j * 4 + 3, none⟩ = some (.slice ka kn kc) := hx 3 _ rfl
      have kn63 : kn ≤ 9223372036854775807 := by omega
      have KB := Lib.hid hkb
      have w0le : w0.heap.size ≤ wo.heap.size := hwr.size
      have KS2 : Hid (SlR ((wo.alloc (.cells #[.int .i64 d.kind, .string (txt d.text), .int .i64 d.num, .slice ka kn kc] 46)).alloc (.cells #[] 3)) w0.heap.size 1 IsI (.slice ka kn kc) d.kids) := Lib.hid (hks.below (hwr.trans (((Below.refl w0.heap.size wo).alloc w0le _).alloc (by rw [World.size_alloc]; omega) _)))
      have HD := Lib.hid hd
      have jn : (j : Int) < (n : Int) := by omega
      have HEN : Hid (es.length = j) := Lib.hid (by have := congrArg List.length HES.out; rw [List.length_map, List.length_take, HN.out] at this; omega)
      have HSZ : Hid (w.heap.size + 3 ≤ wo.heap.size) := Lib.hid (by omega)
      have lbN : bN < wo.heap.size := by omega
      have tokA : True := trivial
      clear hd hks hx hwr hkn hbN
      go_wp2_with (first
          | (at_builtin
             have _t := tokA
             go_must (refine wpList_append_list rfl (.tmp 18) (.tmp 20) _ rfl (wo.heap.size + 1) w0.heap.size 3 jI _ 1 8 Tryd.underlying29 II.out.1 II.out.2.1 II.out.2.2.1 II.out.2.2.2 rfl (by omega) (R := IsI) (l := ([] : List Int)) (m := d.kids) (.slice (some ⟨wo.heap.size + 1, 0, none⟩) 0 0) ?_ (by exact Own1.empty (w := (wo.alloc (.cells #[.int .i64 d.kind, .string (txt d.text), .int .i64 d.num, .slice ka kn kc] 46))) (by rw [World.size_alloc]) (by rw [World.size_alloc]; exact Nat.le_refl _)) ka kn kc ?_ (by exact KS2.out) kn (by simp) IsI.one (by simp; unfold maxLen; omega) (by simp; exact KB.out) (by rw [World.size_alloc, World.size_alloc]; omega) ?_)
             rfl
             rfl
             intro la lc w3 hown hgr
             have O3 := Lib.hid (And.intro hown hgr)
             have BO : Hid (Below wo.heap.size wo w3) := Lib.hid ((((Below.refl wo.heap.size wo).alloc (Nat.le_refl _) _).alloc (by rw [World.size_alloc]; omega) _).grown hgr (by rw [World.size_alloc, World.size_alloc]; omega) (fun g' hg' => by simp [Value.ownBlock] at hg'; omega))
             have G3 := Lib.hid ((((Blk.new wo 46 #[.int .i64 d.kind, .string (txt d.text), .int .i64 d.num, .slice ka kn kc]).alloc (.cells #[] 3))).grown hgr (by simp [Value.ownBlock]))
             have y0 : w3.cell? ⟨wo.heap.size, 0, none⟩ = some (.int .i64 d.kind) := G3.out.cell rfl
             have y1 : w3.cell? ⟨wo.heap.size, 1, none⟩ = some (.string (txt d.text)) := G3.out.cell rfl
             have y2 : w3.cell? ⟨wo.heap.size, 2, none⟩ = some (.int .i64 d.num) := G3.out.cell rfl
             have y3 : w3.cell? ⟨wo.heap.size, 3, none⟩ = some (.slice ka kn kc) := G3.out.cell rfl
             have yz := G3.out.frozen 3
             have lg3 := G3.out.lt
             have o3 : w3.cell? ⟨w.heap.size + 2, 0, none⟩ = some (.slice oa j oc) := (KO1.out.below BO.out KO1.out.lt).cell (i := 0) rfl
             have lo3 := cell_lt o3
             clear hown hgr tokA _t)
          | (at_builtin
             go_must (refine wpList_append_list rfl (.tmp 24) (.tmp 26) _ rfl (w.heap.size + 3) ((w3.setCell ⟨wo.heap.size, 3, none⟩ (.slice la kn lc)).heap.size + 1) 46 jE _ 4 56 Tryd.underlying22 IE.out.1 IE.out.2.1 IE.out.2.2.1 IE.out.2.2.2 rfl (by omega) (R := IsNDv) (l := es) (m := [(d, .slice la kn lc)]) (.slice oa j oc) ?_ (by exact ((HEL.out.below (BO.out.setCell (p := ⟨wo.heap.size, 3, none⟩) (Nat.le_refl _) (.slice la kn lc)))).main.alloc (.cells #[.int .i64 d.kind, .string (txt d.text), .int .i64 d.num, .slice la kn lc] 46)) (some ⟨w3.heap.size, 0, none⟩) 1 1 ?_ (by exact SlR.new1 (w := (w3.setCell ⟨wo.heap.size, 3, none⟩ (.slice la kn lc))) (x := [.int .i64 d.kind, .string (txt d.text), .int .i64 d.num, .slice la kn lc]) (by simp) rfl ⟨rfl, _, _, _, rfl⟩) (j + 1) (by rw [HEN.out]) IsNDv.one (by rw [HEN.out]; unfold maxLen; omega) (by rw [HEN.out]; omega) (by have := BO.out.size; have := HSZ.out; rw [World.size_alloc, World.size_setCell]; omega) ?_)
             rfl
             rfl
             intro oa2 oc2 w4 hown hgr
             have O4 := Lib.hid (And.intro hown hgr)
             have K4 := Lib.hid (((KO1.out.below (BO.out.setCell (p := ⟨wo.heap.size, 3, none⟩) (Nat.le_refl _) (.slice la kn lc)) KO1.out.lt).alloc (.cells #[.int .i64 d.kind, .string (txt d.text), .int .i64 d.num, .slice la kn lc] 46)).grown hgr (fun e => by have := (HEL.out.main.block _ e.symm).1; omega))
             have g4 : w4.cell? ⟨w.heap.size + 2, 0, none⟩ = some (.slice oa j oc) := K4.out.cell (i := 0) rfl
             have z4 := K4.out.frozen 0
             clear hown hgr))
      have BO2 : Below wo.heap.size wo (w3.setCell ⟨wo.heap.size, 3, none⟩ (.slice la kn lc)) := BO.out.setCell (p := ⟨wo.heap.size, 3, none⟩) (Nat.le_refl _) _
      have hkv : Own1 ((w3.setCell ⟨wo.heap.size, 3, none⟩ (.slice la kn lc)).alloc (.cells #[.int .i64 d.kind, .string (txt d.text), .int .i64 d.num, .slice la kn lc] 46)) (w.heap.size + 3) 3 1 IsI (.slice la kn lc) d.kids := by
        have := ((O3.out.1.setFar (p := ⟨wo.heap.size, 3, none⟩) (Nat.lt_succ_self _) (.slice la kn lc)).alloc (.cells #[.int .i64 d.kind, .string (txt d.text), .int .i64 d.num, .slice la kn lc] 46)).mono (base' := w.heap.size + 3) (by have := HSZ.out; omega)
        rw [List.nil_append] at this
        exact this
      have E4 := ((HEL.out.below BO2).alloc (.cells #[.int .i64 d.kind, .string (txt d.text), .int .i64 d.num, .slice la kn lc] 46)).push (e := d) hkv O4.out.1 O4.out.2
      have HB4 : Below (w.heap.size + 3) wo w4 := ((BO2.mono HSZ.out).alloc (by have := BO2.size; have := HSZ.out; omega) (.cells #[.int .i64 d.kind, .string (txt d.text), .int .i64 d.num, .slice la kn lc] 46)).grown O4.out.2 (by have := BO2.size; have := HSZ.out; rw [World.size_alloc]; omega) (fun g' hg' => (HEL.out.main.block g' hg').1)
      have HE4 := Lib.hid E4
      have HB5 := Lib.hid HB4
      clear E4 HB4 hkv BO2
      go_roundw
      case rel =>
        refine ⟨j + 1, oa2, oc2, es ++ [(d, .slice la kn lc)], by omega, by go_num, Lib.hid ?_, Lib.hid (HE4.out.setFar (p := ⟨w.heap.size + 2, 0, none⟩) (Nat.lt_succ_self _) _), Lib.hid ((KQ1.out.below HB5.out (by omega)).far (by show w.heap.size ≠ w.heap.size + 2; omega) _), Lib.hid ((KR1.out.below HB5.out (by omega)).far (by show w.heap.size + 1 ≠ w.heap.size + 2; omega) _), Lib.hid (K4.out.set_ 0 _), Lib.hid ((HB1.out.trans (HB5.out.mono (by omega))).setCell (p := ⟨w.heap.size + 2, 0, none⟩) (by show w.heap.size ≤ w.heap.size + 2; omega) _)⟩
        rw [take_snoc1 HD.out, List.map_append, HES.out]
        rfl
      case measure => simp [intOf]; omega
    · obtain rfl : j = n := by omega
      have djj : decide (j < j) = false := by simp
      clear hlt
      go_wp2_with fail
      generalize hW9 : World.setCell wo _ _ = W9
      have r9 : W9.cell? ⟨w.heap.size + 1, 0, none⟩ = some (.slice oa j oc) := by rw [← hW9]; exact (KR1.out.set_ 0 _).cell rfl
      have b9 : Below w.heap.size w W9 := by rw [← hW9]; exact HB1.out.setCell (p := ⟨w.heap.size + 1, 0, none⟩) (Nat.le_succ _) _
      have e9 : NL W9 (w.heap.size + 3) (.slice oa j oc) es := by rw [← hW9]; exact HEL.out.setFar (p := ⟨w.heap.size + 1, 0, none⟩) (by show w.heap.size + 1 < w.heap.size + 3; omega) _
      refine bodyPost_ret (v := .agg #[.slice oa j oc]) (by simp [results, Tryd.results5, go_sem, r9]) rfl ?_
      refine ⟨_, es, rfl, e9, ?_, b9⟩
      rw [HES.out, List.take_of_length_le (by rw [HN.out]; exact Nat.le_refl _)]
end Go.Proofs.YtidkbodmiegbkaaDoor
namespace Go.Proofs.YtidkbodmiegbkaaDoor
set_option linter.unusedSimpArgs false
set_option linter.unusedVariables false
open Go.RowKit
theorem metL_congr {g g' : Nat → Option (Nat × Nat)} (hg : ∀ y r, g y = some r → y < r.2) : ∀ (ks : List Int) (p dp : Nat), (∀ y, p ≤ y → g y = g' y) → metL g ks p dp = metL g' ks p dp
  | [], p, dp, _ => rfl
  | k :: ks, p, dp, h => by
    simp only [metL]
    split
    · rw [← h p (Nat.le_refl _)]
      cases hx : g p with
      | none => rfl
      | some r =>
        have := hg p r hx
        exact metL_congr hg ks r.2 _ (fun y hy => h y (by omega))
    · rfl
/-- with fuel for all that stands behind, more fuel changes nothing -/
theorem met_fuel (l : List ND) : ∀ (f f' x : Nat), l.length ≤ x + f → l.length ≤ x + f' → metN l f x = metN l f' x
  | 0, 0, x, _, _ => rfl
  | 0, f' + 1, x, h, _ => by
    simp only [metN]
    rw [List.getElem?_eq_none (by omega)]
  | f + 1, 0, x, _, h => by
    simp only [metN]
    rw [List.getElem?_eq_none (by omega)]
  | f + 1, f' + 1, x, h, h' => by
    simp only [metN]
    cases l[x]? with
    | none => rfl
    | some d =>
      simp only
      split
      · rw [metL_congr (fun y r hr => (metN_in l f y r hr).1) d.kids (x + 1) 0 (fun y hy => met_fuel l f f' y (by omega) (by omega))]
      · rfl
/-- a node's reading by its parts', all with the same fuel -/
theorem met_step {l : List ND} {n i : Nat} {d : ND} (hn : l.length = n) (hd : l[i]? = some d) : metN l n i = if mayE d = true then (metL (metN l n) d.kids (i + 1) 0).map fun r => (r.1 + 1, r.2) else none := by
  have hi := (List.getElem?_eq_some_iff.1 hd).1
  obtain ⟨f, rfl⟩ : ∃ f, n = f + 1 := ⟨n - 1, by omega⟩
  rw [metN, hd]
  simp only
  split
  · rw [metL_congr (fun y r hr => (metN_in l f y r hr).1) d.kids (i + 1) 0 (fun y hy => met_fuel l f (f + 1) y (by omega) (by omega))]
  · rfl
/-- where a node is none, the whole is none -/
theorem right_no {l : List ND} (hok : ∀ d ∈ l, NdOk d) {i : Nat} (hi : i < l.length) (h : metN l l.length i = none) (h256 : l.length ≤ 256) : rightE l = 80 := by
  unfold rightE
  rw [if_neg (by omega)]
  cases hr : metN l l.length 0 with
  | none => rfl
  | some r =>
    simp only
    by_cases h2 : r.2 = l.length
    · exfalso
      obtain ⟨t, g1, g2, g3, _⟩ := metN_tree l hok _ _ _ hr
      subst g2
      simp only [Nat.zero_add] at h2
      have hsub : ∀ (t : Tr) (p i : Nat), i < t.size → Stands l t p → t.Good → ∃ f r, metN l f (p + i) = some r := by
        intro t
        suffices H : ∀ (N : Nat) (t : Tr), t.size ≤ N → ∀ (p i : Nat), i < t.size → Stands l t p → t.Good → ∃ f r, metN l f (p + i) = some r from fun p i => H t.size t (Nat.le_refl _) p i
        intro N
        induction N with
        | zero => intro t h; have := size_pos t; omega
        | succ N ih =>
          intro t hN p i hi hs hg
          rcases i with _ | i
          · exact ⟨_, _, (met_of t t.size p (Nat.le_refl _) hg hs).1⟩
          · obtain ⟨k, s, nm, ks⟩ := t
            have hs' := hs
            unfold Stands ndsT at hs
            simp only [Tr.size, Tr.flat, List.map_cons] at hs hi hN
            have htl : StandsL l ks (p + 1) := by
              have := congrArg (List.drop 1) hs
              unfold StandsL ndsL
              rw [List.drop_take, List.drop_drop, Nat.add_sub_cancel_left] at this
              exact this
            have kl : ∀ (ts : List Tr), sizeL ts ≤ N → GoodL ts → ∀ q j, j < sizeL ts → StandsL l ts q → ∃ f r, metN l f (q + j) = some r := by
              intro ts
              induction ts with
              | nil => intro _ _ q j hj; simp [sizeL] at hj
              | cons t ts iht =>
                intro hn hg q j hj hst
                simp only [sizeL] at hn hj
                unfold StandsL ndsL at hst
                simp only [sizeL, flatL, List.map_append] at hst
                rw [List.take_add] at hst
                have hln : ((l.drop q).take t.size).length = ((t.flat q).map EN.nd).length := by
                  have := congrArg List.length hst
                  simp only [List.length_append, List.length_take, List.length_drop, List.length_map, trFlat_len, trFlatL_len] at this ⊢
                  omega
                obtain ⟨e1, e2⟩ := List.append_inj hst hln
                rw [List.drop_drop] at e2
                by_cases hj2 : j < t.size
                · exact ih t (by omega) q j hj2 e1 hg.1
                · obtain ⟨f, r, hfr⟩ := iht (by omega) hg.2 (q + t.size) (j - t.size) (by omega) e2
                  exact ⟨f, r, by rw [← hfr]; congr 1; omega⟩
            obtain ⟨f, r, hfr⟩ := kl ks (by omega) hg.2 (p + 1) i (by omega) htl
            exact ⟨f, r, by rw [← hfr]; congr 1; omega⟩
      obtain ⟨f, r, hfr⟩ := hsub t 0 i (by omega) g3 g1
      rw [Nat.zero_add] at hfr
      have hin := metN_in l f i r hfr
      have mono : ∀ (f' : Nat), f ≤ f' → metN l f' i = some r := by
        intro f' hf
        have hm : ∀ (a b x : Nat) (q : Nat × Nat), a ≤ b → metN l a x = some q → metN l b x = some q := by
          intro a
          induction a with
          | zero => intro b x q _ h; simp only [metN] at h; cases h
          | succ a iha =>
            intro b x q hb h
            obtain ⟨b, rfl⟩ : ∃ c, b = c + 1 := ⟨b - 1, by omega⟩
            simp only [metN] at h ⊢
            cases hd : l[x]? with
            | none => rw [hd] at h; cases h
            | some d =>
              rw [hd] at h
              simp only at h ⊢
              split at h
              · rename_i hmay
                rw [if_pos hmay]
                obtain ⟨z, hz, rfl⟩ := Option.map_eq_some_iff.1 h
                have hml : ∀ (ks : List Int) (p dp : Nat) (z : Nat × Nat), metL (metN l a) ks p dp = some z → metL (metN l b) ks p dp = some z := by
                  intro ks
                  induction ks with
                  | nil => intro p dp z h; exact h
                  | cons k ks ihk =>
                    intro p dp z h
                    simp only [metL] at h ⊢
                    split at h
                    · rename_i e
                      rw [if_pos e]
                      cases hg : metN l a p with
                      | none => rw [hg] at h; cases h
                      | some w =>
                        rw [hg] at h
                        rw [iha b p w (by omega) hg]
                        exact ihk _ _ _ h
                    · cases h
                rw [hml _ _ _ _ hz]
                rfl
              · cases h
        exact hm f f' i r hf hfr
      have := mono (max f l.length) (by omega)
      rw [met_fuel l (max f l.length) l.length i (by omega) (by omega), h] at this
      cases this
    · rw [if_pos h2]
/-- the sizes and depths told of so far -/
def Tab (l : List ND) (n m : Nat) (SL DL : List Int) : Prop := SL.length = n ∧ DL.length = n ∧ (∀ x, m ≤ x → x < n → ∃ dp sz : Nat, metN l n x = some (dp, x + sz) ∧ SL[x]? = some (sz : Int) ∧ DL[x]? = some (dp : Int)) ∧ ∀ x, x < m → x < n → DL[x]? = some 0
theorem Tab.start (l : List ND) (n : Nat) : Tab l n n (List.replicate n 0) (List.replicate n 0) :=
  ⟨List.length_replicate, List.length_replicate, fun x h1 h2 => by omega, fun x _ h => by rw [List.getElem?_replicate, if_pos h]⟩
/-- a row of numbers -/
abbrev ArI (W : World) (base b n : Nat) (L : List Int) : Prop := Own1 W base 3 1 IsI (.slice (some ⟨b, 0, none⟩) n n) L
theorem zeros_cells (n : Nat) : (madeCells (Value.int .i64 0).cells (n * 1)).toList = List.replicate n (Value.int .i64 0) := by
  have h : (Value.int IntKind.i64 0).cells = #[.int .i64 0] := rfl
  rw [h, Nat.mul_one]
  unfold madeCells
  apply List.ext_getElem
  · simp
  · intro i h1 h2
    simp [Nat.mod_one]
section
variable {W W' : World} {base b n : Nat} {L : List Int}
theorem ArI.new (h : W.ownsRow base 3 1 (.slice (some ⟨b, 0, none⟩) n n) n (madeCells (Value.int .i64 0).cells (n * 1)).toList) : ArI W base b n (List.replicate n 0) := by
  rw [zeros_cells] at h
  refine ⟨_, by rw [List.length_replicate]; exact h, by simp, fun i y hy => ?_⟩
  rw [List.getElem?_replicate] at hy
  split at hy
  · rename_i hi
    injection hy with hy
    subst hy
    unfold IsI
    rw [Nat.mul_one, List.drop_replicate, List.take_replicate, show min 1 (n - i) = 1 by omega]
    rfl
  · cases hy
theorem ArI.len (h : ArI W base b n L) : L.length = n := by
  obtain ⟨a, c, he⟩ := h.form
  injection he with _ he
  exact he.symm
theorem ArI.cell (h : ArI W base b n L) {i : Nat} {z : Int} (hi : L[i]? = some z) : W.cell? ⟨b, i, none⟩ = some (.int .i64 z) := by
  have hl := (List.getElem?_eq_some_iff.1 hi).1
  obtain ⟨g, e, _, _, _, hat⟩ := h.at00 (by omega) (by omega)
  injection e with e
  injection e with e
  subst e
  obtain ⟨x, _, hx, hc⟩ := hat i z hi
  unfold IsI at hx
  subst hx
  have := hc 0 _ rfl
  simpa using this
theorem ArI.froz (h : ArI W base b n L) (hn : 0 < n) (i : Nat) : W.frozen? ⟨b, i, none⟩ = false := by
  obtain ⟨g, e, _, _, hf, _⟩ := h.at00 (by rw [h.len]; exact hn) (by omega)
  injection e with e
  injection e with e
  subst e
  exact hf i
theorem ArI.lt (h : ArI W base b n L) : base ≤ b ∧ b < W.heap.size := h.block b rfl
theorem ArI.set (h : ArI W base b n L) {i : Nat} (hi : i < n) (z : Int) : ArI (W.setCell ⟨b, i, none⟩ (.int .i64 z)) base b n (L.set i z) := by
  have hl := h.len
  obtain ⟨xs, h1, h2⟩ := h
  rw [hl] at h1
  refine ⟨xs.set i (.int .i64 z), by rw [List.length_set, hl]; exact (h1.stored i _).1, ?_⟩
  refine ⟨by rw [List.length_set, List.length_set]; exact h2.1, fun k y hy => ?_⟩
  have hxl : xs.length = n := by rw [h2.1, hl, Nat.mul_one]
  by_cases hk : k = i
  · subst hk
    rw [List.getElem?_set_self (by omega)] at hy
    injection hy with hy
    subst hy
    unfold IsI
    rw [Nat.mul_one, List.drop_eq_getElem_cons (by rw [List.length_set]; omega), List.take_succ_cons, List.take_zero, List.getElem_set_self]
  · rw [List.getElem?_set_ne (fun e => hk e.symm)] at hy
    have := h2.2 k y hy
    have hkl := (List.getElem?_eq_some_iff.1 hy).1
    unfold IsI at this ⊢
    rw [Nat.mul_one] at this ⊢
    rw [List.drop_eq_getElem_cons (by omega), List.take_succ_cons, List.take_zero] at this
    rw [List.drop_eq_getElem_cons (by rw [List.length_set]; omega), List.take_succ_cons, List.take_zero, List.getElem_set_ne (fun e => hk e.symm)]
    exact this
theorem ArI.far (h : ArI W base b n L) {p : Addr} (hp : p.block ≠ b) (u : Value) : ArI (W.setCell p u) base b n L :=
  h.stay (fun g hg _ => Below.heap_setCell W p u g (by
    simp [Value.ownBlock] at hg
    subst hg
    exact fun e => hp e.symm))
theorem ArI.keep (h : ArI W base b n L) (hb : Below W.heap.size W W') : ArI W' base b n L := h.stay (fun g _ hl => hb.block g hl)
end
end Go.Proofs.YtidkbodmiegbkaaDoor
namespace Go.Proofs.YtidkbodmiegbkaaDoor
set_option linter.unusedSimpArgs false
set_option linter.unusedVariables false
open Go.RowKit
theorem ndReadC {X Y : World} {v : Value} {l : List ND} (h : SlR X X.heap.size 4 (ND.Is X X.heap.size) v l) (hb : Below X.heap.size X Y) : SlR Y Y.heap.size 4 (ND.Is Y Y.heap.size) v l :=
  ((h.below hb).more hb.size).imp (fun x y h => ND.more (ND.keep h hb) hb.size)
/-- the block of a row that is not empty -/
theorem Own1.blk {α : Type} {w : World} {base size n c : Nat} {e : TypeId} {R : List Value → α → Prop} {a : Option Addr} {l : List α} (h : Own1 w base e size R (.slice a n c) l) : n = 0 ∨ ∃ g cs, a = some ⟨g, 0, none⟩ ∧ base ≤ g ∧ g < w.heap.size ∧ Blk w g e cs ∧ n * size ≤ cs.size := by
  obtain ⟨xs, ⟨h1, h2⟩, h3, h4⟩ := h
  rcases h2 with ⟨h2, h5⟩ | ⟨g, cap, cur, r1, r2, r3, r4, r5, r6, r7⟩
  · left
    injection h2
  · right
    injection r1 with e1 e2 e3
    have hb : Blk w g e cur := r3
    refine ⟨g, cur, e1, r2, hb.lt, hb, ?_⟩
    rw [e2, r6]
    exact Nat.mul_le_mul_right _ r4
end Go.Proofs.YtidkbodmiegbkaaDoor
namespace Go.Proofs.YtidkbodmiegbkaaDoor
set_option linter.unusedSimpArgs false
set_option linter.unusedVariables false
open Go.RowKit Go.ChangeShapes Go.WideShapes Go.ChangeAt
theorem own : ownKnob Tryd.prog.godebug = none := by kernel_rfl
end Go.Proofs.YtidkbodmiegbkaaDoor
namespace Go.Proofs.YtidkbodmiegbkaaDoor
set_option linter.unusedSimpArgs false
set_option linter.unusedVariables false
open Go.RowKit
/-- a cell's text, as numbers -/
def IsTxt (x : List Value) (m : List Nat) : Prop := x = [.string (txt m)] ∧ Bytes m ∧ m.length ≤ maxLen
def textsV (l : List (List Nat)) : List Value := l.map fun m => Value.string (txt m)
theorem texts_read {w : World} {g : Nat} {t : TypeId} (l : List (List Nat)) (hl : ∀ m ∈ l, Bytes m ∧ m.length ≤ 8) (hm : l.length ≤ 100) (hb : Blk w g t (textsV l).toArray) (n c : Nat) (hn : n = l.length) (hc : c = l.length) :
    SlR w w.heap.size 1 IsTxt (.slice (some ⟨g, 0, none⟩) n c) l := by
  subst hn hc
  refine ⟨some ⟨g, 0, none⟩, l.length, rfl, Nat.le_refl _, by unfold maxLen; omega, fun _ => ⟨g, 0, rfl, hb.lt, fun i m hm => ?_⟩⟩
  have h8 := hl m (List.mem_iff_getElem?.2 ⟨i, hm⟩)
  refine ⟨[.string (txt m)], rfl, ⟨rfl, h8.1, by unfold maxLen; omega⟩, fun j u hu => ?_⟩
  rcases j with _ | j
  · simp at hu
    subst hu
    have : (textsV l).toArray[i]? = some (Value.string (txt m)) := by simp [textsV, hm]
    have := hb.cell this
    simpa using this
  · simp at hu
end Go.Proofs.YtidkbodmiegbkaaDoor
namespace Go.Proofs.YtidkbodmiegbkaaDoor
set_option linter.unusedSimpArgs false
set_option linter.unusedVariables false
open Go.RowKit
theorem grown_trans8 {a b c : World} {row : Option Nat} (h : a.grownBy b row) (k : b.grownBy c row) : a.grownBy c row :=
  ⟨k.os.trans h.os, k.tape.trans h.tape, k.output.trans h.output, Nat.le_trans h.size k.size, fun g hg hne => (k.block g (Nat.lt_of_lt_of_le hg h.size) hne).trans (h.block g hg hne)⟩
theorem grown_of_below {a b : World} (row : Option Nat) (h : Below a.heap.size a b) : a.grownBy b row := ⟨h.os, h.tape, h.output, h.size, fun g hg _ => h.block g hg⟩
theorem cell_grown {a b : World} {row : Option Nat} (h : a.grownBy b row) {p : Addr} {u : Value} (hp : a.cell? p = some u) (hne : some p.block ≠ row) : b.cell? p = some u :=
  (World.cell?_of_block (h.block p.block (cell_lt hp) hne)).trans hp
/-- what a call of the closure comes to -/
def MetE (l : List ND) (Ws : World) (b1 : Nat) (i : Int) (m f : Nat) (e : Ending) (W' : World) : Prop :=
  ∃ o : Option (Nat × Nat), o = (if i = (m : Int) then metN l f m else none) ∧ e = .returned (.int .i64 (match o with | some r => (r.1 : Int) | none => 0)) ∧ Ws.grownBy W' (some b1) ∧ ∀ r, o = some r → Blk W' b1 3 #[.int .i64 (r.2 : Int)]
theorem rmet_no (n : Nat) (a : Option Addr) (c : Nat) (b0 b1 b2 : Nat) (i : Int) (m : Nat) (W : World) (h0 : W.cell? ⟨b0, 0, none⟩ = some (.slice a n c)) (h1 : W.cell? ⟨b1, 0, none⟩ = some (.int .i64 (m : Int))) (hno : i ≠ (m : Int) ∨ (n : Int) ≤ i) :
    Calls Tryd.prog 29 #[.int .i64 i, .pointer (some ⟨b1, 0, none⟩), .pointer (some ⟨b0, 0, none⟩), .pointer (some ⟨b2, 0, none⟩)] W fun e W' => e = .returned (.int .i64 0) ∧ W' = W := by
  by_cases e : i = (m : Int)
  · subst e
    have d1 : decide ((n : Int) ≤ (m : Int)) = true := by simp; omega
    have d2 : n ≤ m := by omega
    clear hno
    go_enter Tryd.func29, Tryd.ntmps29
    go_wp2_with fail
    go_ret
    exact ⟨rfl, rfl⟩
  · have d1 : (i != (m : Int)) = true := by simpa using e
    clear hno e
    go_enter Tryd.func29, Tryd.ntmps29
    go_wp2_with fail
    go_ret
    exact ⟨rfl, rfl⟩
set_option maxRecDepth 100000 in
set_option maxHeartbeats 8000000 in
theorem rmet_any {l : List ND} {v : Value} (w0 Ws : World) (b0 b1 b2 : Nat) (hs : SlR w0 w0.heap.size 4 (ND.Is w0 w0.heap.size) v l) (hok : ∀ d ∈ l, NdOk d) (hn : l.length ≤ 256) (hm : Marks w0) (hp : Pow w0) (hl : Below w0.heap.size w0 Ws) (hb1 : w0.heap.size ≤ b1)
    (h0 : Ws.cell? ⟨b0, 0, none⟩ = some v) (h2 : Ws.cell? ⟨b2, 0, none⟩ = some (.func (.func 29) #[] #[.pointer (some ⟨b1, 0, none⟩), .pointer (some ⟨b0, 0, none⟩), .pointer (some ⟨b2, 0, none⟩)])) (n0 : b0 ≠ b1) (n2 : b2 ≠ b1) :
    ∀ (f m : Nat), l.length - m ≤ f → ∀ (i : Int) (W : World), Ws.grownBy W (some b1) → Blk W b1 3 #[.int .i64 (m : Int)] →
      Calls Tryd.prog 29 #[.int .i64 i, .pointer (some ⟨b1, 0, none⟩), .pointer (some ⟨b0, 0, none⟩), .pointer (some ⟨b2, 0, none⟩)] W (MetE l Ws b1 i m f) := by
  obtain ⟨a, c, rfl⟩ : ∃ a c, v = .slice a l.length c := by obtain ⟨a, c, h, _⟩ := hs.form; exact ⟨a, c, h⟩
  have no : ∀ (f m : Nat) (i : Int) (W : World), Ws.grownBy W (some b1) → Blk W b1 3 #[.int .i64 (m : Int)] → (i ≠ (m : Int) ∨ (l.length : Int) ≤ i) →
      Calls Tryd.prog 29 #[.int .i64 i, .pointer (some ⟨b1, 0, none⟩), .pointer (some ⟨b0, 0, none⟩), .pointer (some ⟨b2, 0, none⟩)] W (MetE l Ws b1 i m f) := by
    intro f m i W hg hB hno
    refine (rmet_no l.length a c b0 b1 b2 i m W (cell_grown hg h0 (by simpa using n0)) (hB.cell (i := 0) rfl) hno).mono ?_
    rintro e W' ⟨rfl, rfl⟩
    refine ⟨none, ?_, rfl, hg, fun r h => by cases h⟩
    by_cases e : i = (m : Int)
    · rw [if_pos e]
      have hlm : l.length ≤ m := by omega
      cases f with
      | zero => rfl
      | succ f => simp only [metN]; rw [List.getElem?_eq_none hlm]
    · rw [if_neg e]
  intro f
  induction f with
  | zero =>
    intro m hmf i W hg hB
    by_cases e : i = (m : Int)
    · exact no 0 m i W hg hB (.inr (by omega))
    · exact no 0 m i W hg hB (.inl e)
  | succ f ih =>
    intro m hmf i W hg hB
    by_cases hno : i ≠ (m : Int) ∨ (l.length : Int) ≤ i
    · exact no (f + 1) m i W hg hB hno
    obtain ⟨rfl, hlt⟩ : i = (m : Int) ∧ m < l.length := by omega
    clear hno no
    have hlW := hl.grown hg hl.size (fun k hk => by injection hk with hk; omega)
    obtain ⟨⟨k, s, nm, ks⟩, hd⟩ := get_some rfl hlt
    have hko := hok _ (List.mem_iff_getElem?.2 ⟨m, hd⟩)
    obtain ⟨b, off, x, rfl, hbB, hxl, ⟨kv, rfl, hks⟩, hx⟩ := (hs.below hlW).at_ hd
    simp only at hks hx
    obtain ⟨ka, kc, rfl, _⟩ := hks.form
    have c0 := hx 0 _ rfl
    have c1 := hx 1 _ rfl
    have c2 := hx 2 _ rfl
    have c3 := hx 3 _ rfl
    simp only [Nat.add_zero] at c0
    obtain ⟨kn, hkn⟩ : ∃ z, ks.length = z := ⟨_, rfl⟩
    have hk63 : kn ≤ 9223372036854775807 := by have := hks.caps; unfold maxLen at this; omega
    rw [hkn] at c3 hks
    have hM : metN l (f + 1) m = if mayE ⟨k, s, nm, ks⟩ = true then (metL (metN l f) ks (m + 1) 0).map fun r => (r.1 + 1, r.2) else none := by simp only [metN]; rw [hd]
    have MY := Lib.hid (p_may k s nm ks ka kn kc hkn.symm hk63 hko.1 hko.2.1 W (hm.below hlW) (hp.below hlW))
    have q0 := cell_grown hg h0 (by simpa using n0)
    have q2 := cell_grown hg h2 (by simpa using n2)
    have q1 : W.cell? ⟨b1, 0, none⟩ = some (.int .i64 (m : Int)) := hB.cell (i := 0) rfl
    have hbne : b ≠ b1 := by omega
    have HMF := Lib.hid hmf
    have HM := Lib.hid hM
    have HKS := Lib.hid (hks)
    have HKN := Lib.hid hkn
    have HG := Lib.hid hg
    have HB := Lib.hid hB
    have HIH := Lib.hid ih
    have HLW := Lib.hid hlW
    have HB1 := Lib.hid hb1
    have HLS := Lib.hid hl
    have HN := Lib.hid (And.intro h2 (And.intro n2 n0))
    have HH0 := Lib.hid h0
    obtain ⟨n, hlen⟩ : ∃ n, l.length = n := ⟨_, rfl⟩
    have HLEN := Lib.hid hlen
    rw [hlen] at hlt hn q0
    have m5 : (m : Int) ≤ 5000 := by omega
    have m0 : (0 : Int) ≤ (m : Int) := Int.natCast_nonneg _
    have d1 : ((m : Int) != (m : Int)) = false := by simp
    have d2 : decide ((n : Int) ≤ (m : Int)) = false := by simp; omega
    have d3 : ¬ n ≤ m := by omega
    have d4 : (m : Int) < (n : Int) := by omega
    have l1 := hB.lt
    clear hok hko hs hm hp hl hd hx hxl hks hkn hM hg hB ih hlW hlen h0 h2 hmf
    obtain ⟨bm, hbm⟩ : ∃ z, mayE ⟨k, s, nm, ks⟩ = z := ⟨_, rfl⟩
    rw [hbm] at MY HM
    clear hbm
    cases bm with
    | false =>
      rw [if_neg (by simp)] at HM
      go_enter Tryd.func29, Tryd.ntmps29
      go_wp2_with (first
        | (go_at_call 30; refine MY.out.mono ?_; rintro e w1 ⟨rfl, b1'⟩; have B1 := Lib.hid b1'; clear b1'))
      go_ret
      exact ⟨none, by rw [if_pos rfl, HM.out], rfl, grown_trans8 HG.out (grown_of_below _ B1.out), fun r h => by cases h⟩
    | true =>
      rw [if_pos rfl] at HM
      go_enter Tryd.func29, Tryd.ntmps29
      go_wp2_with (first
        | (go_at_call 30; refine MY.out.mono ?_; rintro e w1 ⟨rfl, b1'⟩; have B1 := Lib.hid b1'; have p1 : w1.cell? ⟨b1, 0, none⟩ = some (.int .i64 (m : Int)) := (World.cell?_of_block (b1'.block b1 l1)).trans q1; have z1 : w1.frozen? ⟨b1, 0, none⟩ = false := (HB.out.below b1' l1).frozen 0; have p0 : w1.cell? ⟨b0, 0, none⟩ = some (.slice (some ⟨b, off, none⟩) n c) := (World.cell?_of_block (b1'.block b0 (cell_lt q0))).trans q0; have pc : w1.cell? ⟨b, off + m * 4 + 3, none⟩ = some (.slice ka kn kc) := (World.cell?_of_block (b1'.block b (cell_lt c0))).trans c3; have l11 : b1 < w1.heap.size := cell_lt p1; clear b1'))
      generalize hwq : World.setCell w1 _ _ = W2
      have GR2 : Hid (Ws.grownBy W2 (some b1)) := Lib.hid (by rw [← hwq]; exact grown_trans8 (grown_trans8 HG.out (grown_of_below _ B1.out)) ⟨rfl, rfl, rfl, by simp, fun g hg hne => Below.heap_setCell w1 _ _ g (by intro e; exact hne (by rw [e]))⟩)
      have BK2 : Hid (Blk W2 b1 3 #[.int .i64 ((m + 1 : Nat) : Int)]) := Lib.hid (by rw [← hwq, show ((m + 1 : Nat) : Int) = (m : Int) + 1 by omega]; exact (HB.out.below B1.out l1).set_ 0 _)
      clear hwq p1 z1 p0 pc l11 c0 c1 c2 c3 q0 q1 q2 MY B1
      obtain ⟨R, hR⟩ : ∃ R, metL (metN l f) ks (m + 1) 0 = R := ⟨_, rfl⟩
      rw [hR] at HM
      have HR := Lib.hid hR
      clear hR
      go_loopw [6, 8, 9, 38] (fun dv _ _ iv wr => ∃ (j dp mk : Nat), j ≤ kn ∧ dv = .int .i64 (dp : Int) ∧ iv = .int .i64 (j : Int) ∧ Hid (dp ≤ 256 ∧ m + 1 ≤ mk ∧ mk ≤ l.length) ∧ Hid (Ws.grownBy wr (some b1)) ∧ Hid (Blk wr b1 3 #[.int .i64 (mk : Int)]) ∧ Hid (metL (metN l f) (ks.drop j) mk dp = R)) (fun _ _ _ iv _ => kn - (intOf iv).toNat)
      case atStart => exact ⟨0, 0, m + 1, Nat.zero_le _, rfl, rfl, Lib.hid ⟨by omega, Nat.le_refl _, by rw [HLEN.out]; omega⟩, GR2, BK2, Lib.hid (by rw [List.drop_zero]; exact HR.out)⟩
      case round =>
        clear GR2 BK2
        obtain ⟨j, dp, mk, hj, rfl, rfl, hbd, hg, hB, hrest⟩ := hrel
        have j0 : (0 : Int) ≤ (j : Int) := Int.natCast_nonneg _
        have dp5 : (dp : Int) ≤ 5000 := by have := hbd.out; omega
        have dp0 : (0 : Int) ≤ (dp : Int) := Int.natCast_nonneg _
        by_cases hlt2 : j < kn
        · obtain ⟨kk, hkk⟩ := get_some HKN.out hlt2
          obtain ⟨bb, o1, x1, rfl, hbb, _, rfl, hx1⟩ := HKS.out.at_ hkk
          have e1 : w0.cell? ⟨bb, o1 + j, none⟩ = some (.int .i64 kk) := by have := hx1 0 _ rfl; simpa using this
          have k1 : wr.cell? ⟨bb, o1 + j, none⟩ = some (.int .i64 kk) := cell_grown hg.out ((World.cell?_of_block (HLS.out.block bb hbb)).trans e1) (by intro e; injection e with e; have := HB1.out; have e' : bb = b1 := e; omega)
          have q2 := cell_grown hg.out HN.out.1 (by have := HN.out.2.1; simpa using this)
          have hdr : ks.drop j = kk :: ks.drop (j + 1) := by
            have hjl := (List.getElem?_eq_some_iff.1 hkk).1
            rw [List.drop_eq_getElem_cons hjl, (List.getElem?_eq_some_iff.1 hkk).2]
          have hrest2 := hrest.out
          rw [hdr] at hrest2
          simp only [metL] at hrest2
          have HRR := Lib.hid hrest2
          have CC := Lib.hid (HIH.out mk (by have := HMF.out; have := hbd.out; omega) kk wr hg.out hB.out)
          clear hkk hx1 e1 hdr hrest2 hrest
          go_wp2_with fail
          refine CC.out.mono ?_
          rintro e w3 ⟨o, ho, rfl, hg3, hB3⟩
          have HG3 := Lib.hid hg3
          have HB3 := Lib.hid hB3
          clear hg3 hB3 k1 q2 CC
          cases o with
          | none =>
            have hR0 : R = none := by
              have h9 := HRR.out
              by_cases e : kk = (mk : Int)
              · rw [if_pos e] at h9 ho
                rw [← ho] at h9
                exact h9.symm
              · rw [if_neg e] at h9
                exact h9.symm
            subst hR0
            clear ho
            go_wp2_with fail
            go_ret
            exact ⟨none, by rw [if_pos rfl, HM.out]; rfl, rfl, HG3.out, fun r h => by cases h⟩
          | some r =>
            obtain ⟨rd, rm⟩ := r
            have hkm : kk = (mk : Int) := by
              by_cases e : kk = (mk : Int)
              · exact e
              · rw [if_neg e] at ho; cases ho
            rw [if_pos hkm] at ho
            obtain ⟨r1, r2, r3, r4⟩ := metN_in l f mk (rd, rm) ho.symm
            simp only at r1 r2 r3 r4
            have hnew : metL (metN l f) (ks.drop (j + 1)) rm (max dp rd) = R := by
              have h9 := HRR.out
              rw [if_pos hkm, ← ho] at h9
              exact h9
            have HNEW := Lib.hid hnew
            have rd0 : ((rd : Int) == 0) = false := by simp; omega
            have rd1 : ¬ (rd : Int) = 0 := by omega
            have rd5 : (rd : Int) ≤ 5000 := by have := HLEN.out; omega
            have R256 : Hid (rd ≤ 256 ∧ m + 1 ≤ rm ∧ rm ≤ l.length) := Lib.hid ⟨by have := HLEN.out; omega, by have := hbd.out; omega, r2⟩
            have HDB := hbd
            clear ho hkm hnew r1 r2 r3 r4 hbd hB hg
            go_wp2_with fail
            go_roundw
            case rel =>
              refine ⟨j + 1, max dp rd, rm, by omega, ?_, by go_num, Lib.hid ⟨by have := HDB.out; have := R256.out; omega, R256.out.2⟩, HG3, Lib.hid (HB3.out _ rfl), HNEW⟩
              congr 1
              rcases Nat.le_total dp rd with h | h
              · rw [Nat.max_eq_right h]; first | omega | exact Int.max_eq_right (by omega)
              · rw [Nat.max_eq_left h]; first | omega | exact Int.max_eq_left (by omega)
            case measure => simp [intOf]; omega
        · obtain rfl : j = kn := by omega
          have hR0 : R = some (dp, mk) := by
            have h9 := hrest.out
            rw [List.drop_of_length_le (by rw [HKN.out]; exact Nat.le_refl _)] at h9
            simp only [metL] at h9
            exact h9.symm
          subst hR0
          have djj : decide (j < j) = false := by simp
          have HBk := hB
          have HGk := hg
          clear hlt2 hrest hB hg
          go_wp2_with fail
          go_ret
          exact ⟨some (dp + 1, mk), by rw [if_pos rfl, HM.out]; rfl, by show Ending.returned _ = _; rfl, HGk.out, fun r h => by injection h with h; subst h; exact HBk.out⟩
set_option maxRecDepth 100000 in
set_option maxHeartbeats 8000000 in
theorem right_e {l : List ND} {v : Value} (w w0 : World) (hs : SlR w0 w0.heap.size 4 (ND.Is w0 w0.heap.size) v l) (hok : ∀ d ∈ l, NdOk d) (hm : Marks w0) (hp : Pow w0) (hw : Below w0.heap.size w0 w) :
    Calls Tryd.prog 21 #[.agg #[v]] w fun e w' => e = .returned (.int .i64 (rightE l : Int)) ∧ Below w.heap.size w w' := by
  have hmf : ∀ (fn : Fn) (first cap : Array Value) (w : World), (Instr.makeFunc fn first cap).run Tryd.prog w = .ok (.func fn first cap) w := fun _ _ _ _ => rfl
  obtain ⟨a, c, rfl⟩ : ∃ a c, v = .slice a l.length c := by obtain ⟨a, c, h, _⟩ := hs.form; exact ⟨a, c, h⟩
  have hn63 : l.length ≤ 9223372036854775807 := by have := hs.caps; unfold maxLen at this; omega
  have hsz := hw.size
  by_cases hbig : 256 < l.length
  · have hv : rightE l = 4 := by unfold rightE; rw [if_pos hbig]
    rw [hv]
    have B1 : Hid (Below w.heap.size w (w.alloc (.cells #[.slice a l.length c] 24))) := Lib.hid ((Below.refl _ _).alloc (Nat.le_refl _) _)
    obtain ⟨n, hlen⟩ : ∃ n, l.length = n := ⟨_, rfl⟩
    rw [hlen] at hbig hn63 B1 ⊢
    have d1 : decide ((256 : Int) < (n : Int)) = true := by simp; omega
    have d2 : decide (256 < n) = true := by simpa using hbig
    clear hs hok hm hp hw hlen hv hbig
    go_enter Tryd.func21, Tryd.ntmps21
    go_wp2_with fail
    go_ret
    exact ⟨rfl, B1.out⟩
  · have hle : l.length ≤ 256 := by omega
    have HM := Lib.hid (fun Ws hl hb1 h0 h2 n0 n2 (hB : Blk Ws (w.heap.size + 1) 3 #[.int .i64 0]) => rmet_any w0 Ws w.heap.size (w.heap.size + 1) (w.heap.size + 1 + 1) hs hok hle hm hp hl hb1 h0 h2 n0 n2 l.length 0 (by omega) 0 Ws (World.grownBy.refl _ _) hB)
    have HW := Lib.hid hw
    have hv : rightE l = match metN l l.length 0 with | none => 80 | some r => if r.2 ≠ l.length then 80 else if 32 < r.1 then 4 else 0 := by unfold rightE; rw [if_neg hbig]; rfl
    have HV := Lib.hid hv
    have HIN := Lib.hid (metN_in l l.length 0)
    have HLE := Lib.hid hle
    have d1 : decide ((256 : Int) < (l.length : Int)) = false := by simp; omega
    have d2 : decide (256 < l.length) = false := by simpa using hbig
    clear hs hok hm hp hw hv hbig hle
    go_enter Tryd.func21, Tryd.ntmps21
    go_wp2_with (first
      | (go_at_call 29
         refine (HM.out _ (((HW.out.alloc HW.out.size _).alloc (below2 HW.out.size) _).alloc (below3 HW.out.size) _) (by omega) ((((Blk.new w _ _).alloc _).alloc _).cell (i := 0) rfl) ((Blk.new_ (by simp) _ _).cell (i := 0) rfl) (by omega) (by omega) ((Blk.new_ (by simp) _ _).alloc _)).mono ?_
         rintro e w1 ⟨o, ho, rfl, hg, hm'⟩
         have HB : Hid (Below w.heap.size w w1) := Lib.hid (((((Below.refl _ _).alloc (Nat.le_refl _) _).alloc (below2 (Nat.le_refl _)) _).alloc (below3 (Nat.le_refl _)) _).grown hg (by simp; omega) (fun k hk => by injection hk with hk; omega))
         have hc : w1.cell? ⟨w.heap.size, 0, none⟩ = some (.slice a l.length c) := cell_grown hg ((((Blk.new w _ _).alloc _).alloc _).cell (i := 0) rfl) (by simp)
         have ho' : o = metN l l.length 0 := by rw [ho]; exact if_pos (by simp)
         have hd : (o = none ∧ rightE l = 80) ∨ (∃ rd rm : Nat, o = some (rd, rm) ∧ rightE l = 80 ∧ ((rd : Int) == 0) = false ∧ ¬ (rd : Int) = 0 ∧ ((rm : Int) != (l.length : Int)) = true ∧ w1.cell? ⟨w.heap.size + 1, 0, none⟩ = some (.int .i64 (rm : Int))) ∨
             (∃ rd : Nat, o = some (rd, l.length) ∧ rightE l = 4 ∧ ((rd : Int) == 0) = false ∧ ¬ (rd : Int) = 0 ∧ decide (32 < rd) = true ∧ decide ((32 : Int) < (rd : Int)) = true ∧ w1.cell? ⟨w.heap.size + 1, 0, none⟩ = some (.int .i64 (l.length : Int))) ∨
             (∃ rd : Nat, o = some (rd, l.length) ∧ rightE l = 0 ∧ ((rd : Int) == 0) = false ∧ ¬ (rd : Int) = 0 ∧ decide (32 < rd) = false ∧ decide ((32 : Int) < (rd : Int)) = false ∧ w1.cell? ⟨w.heap.size + 1, 0, none⟩ = some (.int .i64 (l.length : Int))) := by
           rw [HV.out, ← ho']
           rcases o with _ | ⟨rd, rm⟩
           · exact .inl ⟨rfl, rfl⟩
           · obtain ⟨k1, k2, k3, k4⟩ := HIN.out _ ho'.symm
             simp only at k1 k2 k3 k4
             have q1 := (hm' _ rfl).cell (i := 0) rfl
             have r0 : ((rd : Int) == 0) = false := by simp; omega
             have r1 : ¬ (rd : Int) = 0 := by omega
             by_cases h1 : rm = l.length
             · subst h1
               by_cases h2 : 32 < rd
               · exact .inr (.inr (.inl ⟨rd, rfl, by simp [h2], r0, r1, by simpa using h2, by simp; omega, q1⟩))
               · exact .inr (.inr (.inr ⟨rd, rfl, by simp [h2], r0, r1, by simpa using h2, by simp; omega, q1⟩))
             · exact .inr (.inl ⟨rd, rm, rfl, by simp [h1], r0, r1, by rw [bne_iff_ne]; omega, q1⟩)
         clear hg hm' ho ho'
         rcases hd with ⟨rfl, hv⟩ | ⟨rd, rm, rfl, hv, r0, r1, e1, q1⟩ | ⟨rd, rfl, hv, r0, r1, e1, e2, q1⟩ | ⟨rd, rfl, hv, r0, r1, e1, e2, q1⟩))
    all_goals
      rw [hv]
      go_ret
      exact ⟨rfl, HB.out⟩
end Go.Proofs.YtidkbodmiegbkaaDoor
namespace Go.Proofs.YtidkbodmiegbkaaDoor
set_option linter.unusedSimpArgs false
set_option linter.unusedVariables false
open Go.RowKit
theorem txt_at {W : World} {B g n c k : Nat} {L : List (List Nat)} {m : List Nat} (h : SlR W B 1 IsTxt (.slice (some ⟨g, 0, none⟩) n c) L) (hk : L[k]? = some m) : W.cell? ⟨g, k, none⟩ = some (.string (txt m)) ∧ Bytes m := by
  obtain ⟨b, off, x, hsome, _, _, ⟨rfl, hb, _⟩, hx⟩ := h.at_ hk
  injection hsome with hsome
  injection hsome with e1 e2
  subst e1 e2
  have h0 := hx 0 _ rfl
  simp only [Nat.mul_one, Nat.add_zero, Nat.zero_add] at h0
  exact ⟨h0, hb⟩
set_option maxRecDepth 100000 in
set_option maxHeartbeats 4000000 in
theorem r_kids (k : Int) (W : World) : Calls Tryd.prog 34 #[.int .i64 k] W fun e w' => e = .returned (.int .i64 (kidsN k)) ∧ w' = W := by
  rcases (show (k < 1) ∨ (1 ≤ k ∧ k ≤ 7) ∨ (8 ≤ k ∧ k ≤ 19) ∨ (20 ≤ k ∧ k ≤ 28) ∨ (k = 29) ∨ (k = 30) ∨ (31 ≤ k ∧ k ≤ 34) ∨ (34 < k) by omega) with h | h | h | h | h | h | h | h
  · have hv : kidsN k = -1 := by unfold kidsN; (repeat' split) <;> omega
    rw [hv]
    have t0 : decide (k < 1) = true := by simp; omega
    have t1 : decide (34 < k) = false := by simp; omega
    have t2 : decide (k ≤ 7) = true := by simp; omega
    have t3 : decide (k ≤ 19) = true := by simp; omega
    have q29 : (k == 29) = false := by simp; omega
    have q30 : (k == 30) = false := by simp; omega
    clear hv h
    go_enter Tryd.func34, Tryd.ntmps34
    go_wp2_with fail
    go_ret
    exact ⟨rfl, rfl⟩
  · have hv : kidsN k = 0 := by unfold kidsN; (repeat' split) <;> omega
    rw [hv]
    have t0 : decide (k < 1) = false := by simp; omega
    have t1 : decide (34 < k) = false := by simp; omega
    have t2 : decide (k ≤ 7) = true := by simp; omega
    have t3 : decide (k ≤ 19) = true := by simp; omega
    have q29 : (k == 29) = false := by simp; omega
    have q30 : (k == 30) = false := by simp; omega
    clear hv h
    go_enter Tryd.func34, Tryd.ntmps34
    go_wp2_with fail
    go_ret
    exact ⟨rfl, rfl⟩
  · have hv : kidsN k = 1 := by unfold kidsN; (repeat' split) <;> omega
    rw [hv]
    have t0 : decide (k < 1) = false := by simp; omega
    have t1 : decide (34 < k) = false := by simp; omega
    have t2 : decide (k ≤ 7) = false := by simp; omega
    have t3 : decide (k ≤ 19) = true := by simp; omega
    have q29 : (k == 29) = false := by simp; omega
    have q30 : (k == 30) = false := by simp; omega
    clear hv h
    go_enter Tryd.func34, Tryd.ntmps34
    go_wp2_with fail
    go_ret
    exact ⟨rfl, rfl⟩
  · have hv : kidsN k = 2 := by unfold kidsN; (repeat' split) <;> omega
    rw [hv]
    have t0 : decide (k < 1) = false := by simp; omega
    have t1 : decide (34 < k) = false := by simp; omega
    have t2 : decide (k ≤ 7) = false := by simp; omega
    have t3 : decide (k ≤ 19) = false := by simp; omega
    have q29 : (k == 29) = false := by simp; omega
    have q30 : (k == 30) = false := by simp; omega
    clear hv h
    go_enter Tryd.func34, Tryd.ntmps34
    go_wp2_with fail
    go_ret
    exact ⟨rfl, rfl⟩
  · have hv : kidsN k = 1 := by unfold kidsN; (repeat' split) <;> omega
    rw [hv]
    have t0 : decide (k < 1) = false := by simp; omega
    have t1 : decide (34 < k) = false := by simp; omega
    have t2 : decide (k ≤ 7) = false := by simp; omega
    have t3 : decide (k ≤ 19) = false := by simp; omega
    have q29 : (k == 29) = true := by simp; omega
    have q30 : (k == 30) = false := by simp; omega
    clear hv h
    go_enter Tryd.func34, Tryd.ntmps34
    go_wp2_with fail
    go_ret
    exact ⟨rfl, rfl⟩
  · have hv : kidsN k = 3 := by unfold kidsN; (repeat' split) <;> omega
    rw [hv]
    have t0 : decide (k < 1) = false := by simp; omega
    have t1 : decide (34 < k) = false := by simp; omega
    have t2 : decide (k ≤ 7) = false := by simp; omega
    have t3 : decide (k ≤ 19) = false := by simp; omega
    have q29 : (k == 29) = false := by simp; omega
    have q30 : (k == 30) = true := by simp; omega
    clear hv h
    go_enter Tryd.func34, Tryd.ntmps34
    go_wp2_with fail
    go_ret
    exact ⟨rfl, rfl⟩
  · have hv : kidsN k = 2 := by unfold kidsN; (repeat' split) <;> omega
    rw [hv]
    have t0 : decide (k < 1) = false := by simp; omega
    have t1 : decide (34 < k) = false := by simp; omega
    have t2 : decide (k ≤ 7) = false := by simp; omega
    have t3 : decide (k ≤ 19) = false := by simp; omega
    have q29 : (k == 29) = false := by simp; omega
    have q30 : (k == 30) = false := by simp; omega
    clear hv h
    go_enter Tryd.func34, Tryd.ntmps34
    go_wp2_with fail
    go_ret
    exact ⟨rfl, rfl⟩
  · have hv : kidsN k = -1 := by unfold kidsN; (repeat' split) <;> omega
    rw [hv]
    have t0 : decide (k < 1) = false := by simp; omega
    have t1 : decide (34 < k) = true := by simp; omega
    have t2 : decide (k ≤ 7) = false := by simp; omega
    have t3 : decide (k ≤ 19) = false := by simp; omega
    have q29 : (k == 29) = false := by simp; omega
    have q30 : (k == 30) = false := by simp; omega
    clear hv h
    go_enter Tryd.func34, Tryd.ntmps34
    go_wp2_with fail
    go_ret
    exact ⟨rfl, rfl⟩
set_option maxRecDepth 100000 in
set_option maxHeartbeats 4000000 in
theorem r_reserved (s : List Nat) (hb : Bytes s) (W : World) : Calls Tryd.prog 36 #[.string (txt s)] W fun e w' => e = .returned (.bool (decide (s ∈ wordsL))) ∧ Below W.heap.size W w' := by
  go_enter Tryd.func36, Tryd.ntmps36
  go_wp2_with fail
  generalize hwq : World.alloc _ _ = W1
  have B1 : Hid (Below W.heap.size W W1) := Lib.hid (by rw [← hwq]; exact (Below.refl _ _).alloc (Nat.le_refl _) _)
  have R1 : Hid (SlR W1 W1.heap.size 1 IsTxt (.slice (some ⟨W.heap.size, 0, none⟩) 22 22) wordsL) := Lib.hid (by rw [← hwq]; exact texts_read wordsL (by unfold Bytes; decide) (by decide) (Blk.new W 9 _) 22 22 rfl rfl)
  clear hwq
  obtain ⟨xs, hxs⟩ : ∃ z, W.heap.size = z := ⟨_, rfl⟩
  have HXS := Lib.hid hxs
  have HB := Lib.hid hb
  rw [hxs] at R1 ⊢
  clear hxs hb
  go_loopw [2, 4] (fun _ j wr => ∃ i : Nat, i ≤ 22 ∧ j = .int .i64 (i : Int) ∧ Hid (¬ s ∈ wordsL.take i) ∧ W1 = wr) (fun _ j _ => 22 - (intOf j).toNat)
  case atStart => exact ⟨0, by omega, by go_num, by simp [Hid], rfl⟩
  case round =>
    obtain ⟨i, hi, rfl, hin, rfl⟩ := hrel
    have b1 : (0 : Int) ≤ (i : Int) := Int.natCast_nonneg _
    by_cases hlt : i < 22
    · obtain ⟨y, hd⟩ := get_some (l := wordsL) (n := 22) rfl hlt
      have hc6 : (i : Int) < 22 := by omega
      obtain ⟨t1, hyb⟩ := txt_at R1.out hd
      have hkl := (List.getElem?_eq_some_iff.1 hd).1
      by_cases hcd : y = s
      · subst hcd
        have hv : decide (y ∈ wordsL) = true := by simp; exact List.mem_iff_getElem?.2 ⟨i, hd⟩
        have e1 : ((txt y).toList == (txt y).toList) = true := beq_self_eq_true _
        have HV := Lib.hid hv
        clear hv hd hkl hin
        go_wp2_with fail
        go_ret
        exact ⟨by rw [HV.out]; rfl, B1.out⟩
      · have e1 : ((txt y).toList == (txt s).toList) = false := by
          rw [beq_eq_false_iff_ne]
          intro e
          have := (toList_inj _ _).1 e
          exact hcd (by rw [← bs_txt hyb, this, bs_txt HB.out])
        have hnot : ¬ s ∈ wordsL.take (i + 1) := by
          rw [List.take_succ_eq_append_getElem hkl, (List.getElem?_eq_some_iff.1 hd).2]
          intro hx
          rcases List.mem_append.1 hx with hx | hx
          · exact hin.out hx
          · simp at hx; exact hcd hx.symm
        have Hnot := Lib.hid hnot
        clear hnot hd hkl hcd hin
        go_wp2_with fail
        go_roundw
        case rel => exact ⟨i + 1, by omega, by go_num, Hnot, by first | rfl | trivial⟩
        case measure => simp [intOf]; omega
    · obtain rfl : i = 22 := by omega
      have djj : decide (((22 : Nat) : Int) < 22) = false := by decide
      have hv : decide (s ∈ wordsL) = false := by
        have := hin.out
        rw [List.take_of_length_le (by decide)] at this
        simpa using this
      have HV := Lib.hid hv
      clear hv hlt hin
      go_wp2_with fail
      go_ret
      exact ⟨by rw [HV.out]; rfl, B1.out⟩
set_option maxRecDepth 100000 in
set_option maxHeartbeats 16000000 in
theorem r_may (k : Int) (s : List Nat) (n : Int) (ks : List Int) (ka : Option Addr) (kn kc : Nat) (hkn : kn = ks.length) (hk63 : kn ≤ 9223372036854775807) (hb : Bytes s) (hl : s.length ≤ 140737488355328) (w : World) :
    Calls Tryd.prog 23 #[.agg #[.int .i64 k, .string (txt s), .int .i64 n, .slice ka kn kc]] w fun e w' => e = .returned (.bool (mayE ⟨k, s, n, ks⟩)) ∧ Below w.heap.size w w' := by
  rw [mayE_def, ← hkn]
  have BX : Hid (Below w.heap.size w (w.alloc (.cells #[.int .i64 k, .string (txt s), .int .i64 n, .slice ka kn kc] 46))) := Lib.hid ((Below.refl _ _).alloc (Nat.le_refl _) _)
  have KD : Hid (∀ W, Calls Tryd.prog 34 #[.int .i64 k] W fun e w' => e = .returned (.int .i64 (kidsN k)) ∧ w' = W) := Lib.hid (fun W => r_kids k W)
  have RR : Hid (∀ W, Calls Tryd.prog 35 #[.string (txt s)] W fun e w' => e = .returned (.bool (rightN s)) ∧ Quiet W w') := Lib.hid (fun W => by
    have := ref_right (txt s) (by rw [txt_size]; unfold maxLen; omega) W
    rw [bs_txt hb] at this
    exact this)
  have RV : Hid (∀ W, Calls Tryd.prog 36 #[.string (txt s)] W fun e w' => e = .returned (.bool (decide (s ∈ wordsL))) ∧ Below W.heap.size W w') := Lib.hid (fun W => r_reserved s hb W)
  have hkr : kidsN k = (kn : Int) → 1 ≤ k ∧ k ≤ 34 := by
    intro h
    unfold kidsN at h
    repeat' split at h
    all_goals omega
  obtain ⟨kd, hkd⟩ : ∃ z, kidsN k = z := ⟨_, rfl⟩
  rw [hkd] at KD hkr ⊢
  obtain ⟨sl, hsl⟩ : ∃ z, s.length = z := ⟨_, rfl⟩
  have a7 : ((txt s).size : Int) = (sl : Int) := by rw [txt_size, hsl]
  have e0 : ((txt s).toList == []) = decide (s = []) := by
    by_cases h5 : s = []
    · subst h5; rw [nil_facts]; rfl
    · rw [decide_eq_false h5, beq_eq_false_iff_ne]; exact txt_empty hb h5
  rw [hsl]
  have hin : (k ∈ namedL) ↔ (k = 7 ∨ k = 8 ∨ k = 9 ∨ k = 10 ∨ k = 12 ∨ k = 13 ∨ k = 31 ∨ k = 32 ∨ k = 33 ∨ k = 34) := by simp [namedL]
  clear hkd hkn hb hl hsl
  by_cases h1 : kd = (kn : Int)
  rotate_left
  · have a1 : (kd != (kn : Int)) = true := by simpa using h1
    rw [decide_eq_false h1]
    simp only [Bool.false_and]
    clear h1 hkr hin e0
    go_enter Tryd.func23, Tryd.ntmps23
    go_wp2_with fail
    go_quiet ((go_at_call 34; with_reducible exact quiet_callw (KD.out _)))
    go_wp2_with fail
    go_ret
    exact ⟨rfl, below_drewN BX.out _⟩
  have hk := hkr h1
  subst h1
  have a1 : ((kn : Int) != (kn : Int)) = false := by simp
  rw [decide_eq_true rfl]
  by_cases hmin : n = -9223372036854775808
  · subst hmin
    obtain ⟨k1, hk1⟩ : ∃ b, (k != 1) = b := ⟨_, rfl⟩
    rw [decide_eq_true rfl]
    simp only [Bool.not_true, Bool.and_false, Bool.false_and]
    clear hkr hin e0 hk
    cases k1
    all_goals
      go_enter Tryd.func23, Tryd.ntmps23
      go_wp2_with fail
      go_quiet ((go_at_call 34; with_reducible exact quiet_callw (KD.out _)))
      go_wp2_with fail
      go_ret
      exact ⟨rfl, below_drewN BX.out _⟩
  have m1 : (n == -9223372036854775808) = false := by simpa using hmin
  rw [decide_eq_false hmin]
  by_cases hbad : n ≠ 0 ∧ k ≠ 1
  · have k1 : (k != 1) = true := by simpa using hbad.2
    have n1 : (n != 0) = true := by simpa using hbad.1
    rw [decide_eq_true hbad.1, decide_eq_true hbad.2]
    simp only [Bool.and_self, Bool.not_true, Bool.and_false, Bool.false_and]
    clear hkr hin e0 hk hbad hmin
    go_enter Tryd.func23, Tryd.ntmps23
    go_wp2_with fail
    go_quiet ((go_at_call 34; with_reducible exact quiet_callw (KD.out _)))
    go_wp2_with fail
    go_ret
    exact ⟨rfl, below_drewN BX.out _⟩
  have hok : (decide (n ≠ 0) && decide (k ≠ 1)) = false := by
    by_cases hz : n = 0
    · rw [decide_eq_false (fun h => h hz)]; rfl
    · rw [decide_eq_false (p := k ≠ 1) (fun h => hbad ⟨hz, h⟩), Bool.and_false]
  rw [hok]
  simp only [Bool.not_false, Bool.and_self, Bool.true_and]
  have key : (k != 1) = false ∨ ((k != 1) = true ∧ (n != 0) = false) := by
    by_cases h : k = 1
    · left; simpa using h
    · right
      refine ⟨by simpa using h, ?_⟩
      by_cases hz : n = 0
      · simpa using hz
      · exact absurd ⟨hz, h⟩ hbad
  clear hok hbad hmin hkr
  rcases (show (k = 1) ∨ (k = 2) ∨ (3 ≤ k ∧ k ≤ 6) ∨ (7 ≤ k ∧ k ≤ 13 ∧ k ≠ 11) ∨ (k = 11) ∨ (14 ≤ k ∧ k ≤ 30) ∨ (31 ≤ k ∧ k ≤ 34) by omega) with h | h | h | h | h | h | h
  · have f7 : decide (7 ≤ k) = false := by simp only [decide_eq_true_eq, decide_eq_false_iff_not]; omega
    have f13 : decide (k ≤ 13) = true := by simp only [decide_eq_true_eq, decide_eq_false_iff_not]; omega
    have f11 : (k != 11) = true := by simp; omega
    have f31 : decide (31 ≤ k) = false := by simp only [decide_eq_true_eq, decide_eq_false_iff_not]; omega
    have hnm : ¬ k ∈ namedL := fun h => by have := hin.1 h; omega
    rw [if_neg hnm]
    obtain ⟨ce, hce⟩ : ∃ b, decide (s = []) = b := ⟨_, rfl⟩
    rw [hce] at e0 ⊢
    have k1 : (k != 1) = false := by simp; omega
    have g2 : (k == 2) = false := by simp; omega
    rw [decide_eq_false (p := (k = 2)) (by omega), Bool.false_and, Bool.or_false]
    clear hin hk hce hnm key h RR RV
    cases ce
    all_goals
      go_enter Tryd.func23, Tryd.ntmps23
      go_wp2_with fail
      go_quiet ((go_at_call 34; with_reducible exact quiet_callw (KD.out _)))
      go_wp2_with fail
      go_ret
      exact ⟨rfl, below_drewN BX.out _⟩
  · have f7 : decide (7 ≤ k) = false := by simp only [decide_eq_true_eq, decide_eq_false_iff_not]; omega
    have f13 : decide (k ≤ 13) = true := by simp only [decide_eq_true_eq, decide_eq_false_iff_not]; omega
    have f11 : (k != 11) = true := by simp; omega
    have f31 : decide (31 ≤ k) = false := by simp only [decide_eq_true_eq, decide_eq_false_iff_not]; omega
    have hnm : ¬ k ∈ namedL := fun h => by have := hin.1 h; omega
    rw [if_neg hnm]
    obtain ⟨ce, hce⟩ : ∃ b, decide (s = []) = b := ⟨_, rfl⟩
    rw [hce] at e0 ⊢
    have k1 : (k != 1) = true := by simp; omega
    have n1 : (n != 0) = false := by rcases key with q | ⟨_, q⟩; rw [q] at k1; cases k1; exact q
    subst h
    obtain ⟨cl, hcl⟩ : ∃ b, decide (sl ≤ 4096) = b := ⟨_, rfl⟩
    have gl : decide ((sl : Int) ≤ 4096) = cl := by rw [← hcl]; congr 1; apply propext; omega
    rw [hcl, decide_eq_true rfl, Bool.true_and]
    clear hin hk hce hnm key RR RV f7 f13 f11 f31 k1
    cases cl <;> cases ce
    all_goals
      go_enter Tryd.func23, Tryd.ntmps23
      go_wp2_with fail
      go_quiet ((go_at_call 34; with_reducible exact quiet_callw (KD.out _)))
      go_wp2_with fail
      go_ret
      exact ⟨rfl, below_drewN BX.out _⟩
  · have f7 : decide (7 ≤ k) = false := by simp only [decide_eq_true_eq, decide_eq_false_iff_not]; omega
    have f13 : decide (k ≤ 13) = true := by simp only [decide_eq_true_eq, decide_eq_false_iff_not]; omega
    have f11 : (k != 11) = true := by simp; omega
    have f31 : decide (31 ≤ k) = false := by simp only [decide_eq_true_eq, decide_eq_false_iff_not]; omega
    have hnm : ¬ k ∈ namedL := fun h => by have := hin.1 h; omega
    rw [if_neg hnm]
    obtain ⟨ce, hce⟩ : ∃ b, decide (s = []) = b := ⟨_, rfl⟩
    rw [hce] at e0 ⊢
    have k1 : (k != 1) = true := by simp; omega
    have n1 : (n != 0) = false := by rcases key with q | ⟨_, q⟩; rw [q] at k1; cases k1; exact q
    have g2 : (k == 2) = false := by simp; omega
    rw [decide_eq_false (p := (k = 2)) (by omega), Bool.false_and, Bool.or_false]
    clear hin hk hce hnm key h RR RV
    cases ce
    all_goals
      go_enter Tryd.func23, Tryd.ntmps23
      go_wp2_with fail
      go_quiet ((go_at_call 34; with_reducible exact quiet_callw (KD.out _)))
      go_wp2_with fail
      go_ret
      exact ⟨rfl, below_drewN BX.out _⟩
  · have f7 : decide (7 ≤ k) = true := by simp only [decide_eq_true_eq, decide_eq_false_iff_not]; omega
    have f13 : decide (k ≤ 13) = true := by simp only [decide_eq_true_eq, decide_eq_false_iff_not]; omega
    have f11 : (k != 11) = true := by simp; omega
    have f31 : decide (31 ≤ k) = false := by simp only [decide_eq_true_eq, decide_eq_false_iff_not]; omega
    have hnm : k ∈ namedL := hin.2 (by omega)
    have k1 : (k != 1) = true := by simp; omega
    have n1 : (n != 0) = false := by rcases key with q | ⟨_, q⟩; rw [q] at k1; cases k1; exact q
    rw [if_pos hnm]
    unfold plain8N
    obtain ⟨rb, hrb⟩ : ∃ b, rightN s = b := ⟨_, rfl⟩
    obtain ⟨vb, hvb⟩ : ∃ b, decide (s ∈ wordsL) = b := ⟨_, rfl⟩
    rw [hrb] at RR ⊢
    rw [hvb] at RV ⊢
    clear hrb hvb hin e0 hk a7 hnm key h
    cases rb
    · rw [Bool.false_and]
      go_enter Tryd.func23, Tryd.ntmps23
      go_wp2_with fail
      go_quiet ((go_at_call 34; with_reducible exact quiet_callw (KD.out _)))
      go_wp2_with (first
          | (go_at_call 35; refine (RR.out _).mono ?_; rintro e w3 ⟨rfl, nq, rfl⟩)
          | (go_at_call 36; refine (RV.out _).mono ?_; rintro e w4 ⟨rfl, b4⟩; have B4 := Lib.hid b4; clear b4))
      go_ret
      exact ⟨rfl, by first | exact (below_drewN BX.out _).trans (B4.out.mono (by have := BX.out.size; exact this)) | exact below_drewN BX.out _⟩
    · cases vb
      all_goals
        go_enter Tryd.func23, Tryd.ntmps23
        go_wp2_with fail
        go_quiet ((go_at_call 34; with_reducible exact quiet_callw (KD.out _)))
        go_wp2_with (first
          | (go_at_call 35; refine (RR.out _).mono ?_; rintro e w3 ⟨rfl, nq, rfl⟩)
          | (go_at_call 36; refine (RV.out _).mono ?_; rintro e w4 ⟨rfl, b4⟩; have B4 := Lib.hid b4; clear b4))
        go_ret
        exact ⟨rfl, by first | exact (below_drewN BX.out _).trans (B4.out.mono (by have := BX.out.size; exact this)) | exact below_drewN BX.out _⟩
  · have f7 : decide (7 ≤ k) = true := by simp only [decide_eq_true_eq, decide_eq_false_iff_not]; omega
    have f13 : decide (k ≤ 13) = true := by simp only [decide_eq_true_eq, decide_eq_false_iff_not]; omega
    have f11 : (k != 11) = false := by simp; omega
    have f31 : decide (31 ≤ k) = false := by simp only [decide_eq_true_eq, decide_eq_false_iff_not]; omega
    have hnm : ¬ k ∈ namedL := fun h => by have := hin.1 h; omega
    rw [if_neg hnm]
    obtain ⟨ce, hce⟩ : ∃ b, decide (s = []) = b := ⟨_, rfl⟩
    rw [hce] at e0 ⊢
    have k1 : (k != 1) = true := by simp; omega
    have n1 : (n != 0) = false := by rcases key with q | ⟨_, q⟩; rw [q] at k1; cases k1; exact q
    have g2 : (k == 2) = false := by simp; omega
    rw [decide_eq_false (p := (k = 2)) (by omega), Bool.false_and, Bool.or_false]
    clear hin hk hce hnm key h RR RV
    cases ce
    all_goals
      go_enter Tryd.func23, Tryd.ntmps23
      go_wp2_with fail
      go_quiet ((go_at_call 34; with_reducible exact quiet_callw (KD.out _)))
      go_wp2_with fail
      go_ret
      exact ⟨rfl, below_drewN BX.out _⟩
  · have f7 : decide (7 ≤ k) = true := by simp only [decide_eq_true_eq, decide_eq_false_iff_not]; omega
    have f13 : decide (k ≤ 13) = false := by simp only [decide_eq_true_eq, decide_eq_false_iff_not]; omega
    have f11 : (k != 11) = true := by simp; omega
    have f31 : decide (31 ≤ k) = false := by simp only [decide_eq_true_eq, decide_eq_false_iff_not]; omega
    have hnm : ¬ k ∈ namedL := fun h => by have := hin.1 h; omega
    rw [if_neg hnm]
    obtain ⟨ce, hce⟩ : ∃ b, decide (s = []) = b := ⟨_, rfl⟩
    rw [hce] at e0 ⊢
    have k1 : (k != 1) = true := by simp; omega
    have n1 : (n != 0) = false := by rcases key with q | ⟨_, q⟩; rw [q] at k1; cases k1; exact q
    have g2 : (k == 2) = false := by simp; omega
    rw [decide_eq_false (p := (k = 2)) (by omega), Bool.false_and, Bool.or_false]
    clear hin hk hce hnm key h RR RV
    cases ce
    all_goals
      go_enter Tryd.func23, Tryd.ntmps23
      go_wp2_with fail
      go_quiet ((go_at_call 34; with_reducible exact quiet_callw (KD.out _)))
      go_wp2_with fail
      go_ret
      exact ⟨rfl, below_drewN BX.out _⟩
  · have f7 : decide (7 ≤ k) = true := by simp only [decide_eq_true_eq, decide_eq_false_iff_not]; omega
    have f13 : decide (k ≤ 13) = false := by simp only [decide_eq_true_eq, decide_eq_false_iff_not]; omega
    have f11 : (k != 11) = true := by simp; omega
    have f31 : decide (31 ≤ k) = true := by simp only [decide_eq_true_eq, decide_eq_false_iff_not]; omega
    have hnm : k ∈ namedL := hin.2 (by omega)
    have k1 : (k != 1) = true := by simp; omega
    have n1 : (n != 0) = false := by rcases key with q | ⟨_, q⟩; rw [q] at k1; cases k1; exact q
    rw [if_pos hnm]
    unfold plain8N
    obtain ⟨rb, hrb⟩ : ∃ b, rightN s = b := ⟨_, rfl⟩
    obtain ⟨vb, hvb⟩ : ∃ b, decide (s ∈ wordsL) = b := ⟨_, rfl⟩
    rw [hrb] at RR ⊢
    rw [hvb] at RV ⊢
    clear hrb hvb hin e0 hk a7 hnm key h
    cases rb
    · rw [Bool.false_and]
      go_enter Tryd.func23, Tryd.ntmps23
      go_wp2_with fail
      go_quiet ((go_at_call 34; with_reducible exact quiet_callw (KD.out _)))
      go_wp2_with (first
          | (go_at_call 35; refine (RR.out _).mono ?_; rintro e w3 ⟨rfl, nq, rfl⟩)
          | (go_at_call 36; refine (RV.out _).mono ?_; rintro e w4 ⟨rfl, b4⟩; have B4 := Lib.hid b4; clear b4))
      go_ret
      exact ⟨rfl, by first | exact (below_drewN BX.out _).trans (B4.out.mono (by have := BX.out.size; exact this)) | exact below_drewN BX.out _⟩
    · cases vb
      all_goals
        go_enter Tryd.func23, Tryd.ntmps23
        go_wp2_with fail
        go_quiet ((go_at_call 34; with_reducible exact quiet_callw (KD.out _)))
        go_wp2_with (first
          | (go_at_call 35; refine (RR.out _).mono ?_; rintro e w3 ⟨rfl, nq, rfl⟩)
          | (go_at_call 36; refine (RV.out _).mono ?_; rintro e w4 ⟨rfl, b4⟩; have B4 := Lib.hid b4; clear b4))
        go_ret
        exact ⟨rfl, by first | exact (below_drewN BX.out _).trans (B4.out.mono (by have := BX.out.size; exact this)) | exact below_drewN BX.out _⟩
end Go.Proofs.YtidkbodmiegbkaaDoor
namespace Go.Proofs.YtidkbodmiegbkaaDoor
set_option linter.unusedSimpArgs false
set_option linter.unusedVariables false
open Go.RowKit
set_option maxRecDepth 100000 in
set_option maxHeartbeats 40000000 in
theorem rright {l : List ND} {v : Value} (w w0 : World) (hs : SlR w0 w0.heap.size 4 (ND.Is w0 w0.heap.size) v l) (hok : ∀ d ∈ l, NdOk d) (hw : Below w0.heap.size w0 w) :
    Calls Tryd.prog 16 #[.agg #[v]] w fun e w' => e = .returned (.int .i64 (rightE l : Int)) ∧ Below w.heap.size w w' := by
  obtain ⟨a, c, rfl⟩ : ∃ a c, v = .slice a l.length c := by obtain ⟨a, c, h, _⟩ := hs.form; exact ⟨a, c, h⟩
  have hcap := hs.caps
  have hn63 : l.length ≤ 9223372036854775807 := by unfold maxLen at hcap; omega
  obtain ⟨n, hn⟩ : ∃ n, l.length = n := ⟨_, rfl⟩
  have HN := Lib.hid hn
  have hr1 : 256 < n → rightE l = 4 := fun h => by unfold rightE; rw [hn, if_pos h]
  have hr2 : n = 0 → rightE l = 80 := fun h => by
    have : l = [] := List.eq_nil_of_length_eq_zero (by omega)
    subst this
    rfl
  have hr3 : ∀ i, i < n → n ≤ 256 → metN l n i = none → rightE l = 80 := fun i hi h2 h => right_no (i := i) hok (by omega) (by rw [hn]; exact h) (by omega)
  have hr4 : ∀ dp sz : Nat, n ≤ 256 → metN l n 0 = some (dp, 0 + sz) → rightE l = if sz ≠ n then 80 else if 32 < dp then 4 else 0 := fun dp sz h2 h => by
    unfold rightE
    rw [hn, if_neg (by omega), h]
    simp only [Nat.zero_add]
  rw [hn] at hn63 hcap ⊢
  have HS := Lib.hid hs
  have HW := Lib.hid hw
  have HOK := Lib.hid hok
  have HR3 := Lib.hid hr3
  have HR4 := Lib.hid hr4
  have B0 : Hid (Below w.heap.size w (w.alloc (.cells #[.slice a n c] 24))) := Lib.hid ((Below.refl _ _).alloc (Nat.le_refl _) _)
  have K0 : Hid (Blk (w.alloc (.cells #[.slice a n c] 24)) w.heap.size 24 #[.slice a n c]) := Lib.hid (Blk.new _ _ _)
  obtain ⟨R, hR⟩ : ∃ R, rightE l = R := ⟨_, rfl⟩
  rw [hR] at hr1 hr2 HR3 HR4 ⊢
  have HRR := Lib.hid hR
  clear hs hok hw hn hr3 hr4 hR hcap
  by_cases hbig : 256 < n
  · have d1 : decide ((256 : Int) < (n : Int)) = true := by simp only [decide_eq_true_eq]; omega
    have d2 : decide (256 < n) = true := by simpa using hbig
    have hv := hr1 hbig
    subst hv
    clear hr1 hr2 HRR HR3 HR4 hbig
    go_enter Tryd.func16, Tryd.ntmps16
    go_wp2_with fail
    go_ret
    exact ⟨rfl, B0.out⟩
  have d1 : decide ((256 : Int) < (n : Int)) = false := by simp only [decide_eq_false_iff_not]; omega
  have d2 : decide (256 < n) = false := by simpa using hbig
  by_cases hz : n = 0
  · have hv := hr2 hz
    subst hz hv
    clear hr1 hr2 HRR HR3 HR4 hbig
    go_enter Tryd.func16, Tryd.ntmps16
    go_wp2_with fail
    go_ret
    exact ⟨rfl, B0.out⟩
  have z1 : ((n : Int) == 0) = false := by simp; omega
  have n256 : n ≤ 256 := by omega
  have n6 : (n : Int) ≤ 256 := by omega
  have n0 : (0 : Int) < (n : Int) := by omega
  have np : 0 < n := by omega
  obtain ⟨jI, hi, hzz, hs2, hby⟩ := info_parts info_int
  have II := Lib.hid (And.intro hi (And.intro hzz (And.intro hs2 hby)))
  have tok1 : True := trivial
  have tok2 : True := trivial
  clear hi hzz hs2 hby hr1 hr2 hbig hz HRR
  go_enter Tryd.func16, Tryd.ntmps16
  go_wp2_with (first
    | (at_make
       have _t := tok1
       refine wpList_make_full _ rfl (.tmp 19) (.tmp 19) 29 rfl (w.heap.size + 1) 3 jI _ 1 Tryd.underlying29 II.out.1 II.out.2.1 II.out.2.2.1 .i64 .i64 (n : Int) (n : Int) n rfl rfl rfl rfl (by rw [II.out.2.2.2]; omega) (by unfold maxLen; omega) (by rw [World.size_alloc]; exact Nat.le_refl _) ?_
       intro w1 hown hgr
       have R1 := Lib.hid (ArI.new hown)
       have B1 : Hid (Below w.heap.size w w1) := Lib.hid (B0.out.grown hgr (by rw [World.size_alloc]; omega) (fun g hg => by cases hg))
       have KQ1 := Lib.hid (K0.out.grown hgr (by simp))
       have Z1 : Hid (w.heap.size + 1 < w1.heap.size) := Lib.hid (by have := (ArI.lt R1.out).2; rw [World.size_alloc] at this; exact this)
       have e1 : w1.cell? ⟨w.heap.size, 0, none⟩ = some (.slice a n c) := KQ1.out.cell (i := 0) rfl
       have l1 := KQ1.out.lt
       clear hown hgr tok1 _t)
    | (at_make
       have _t := tok2
       refine wpList_make_full _ rfl (.tmp 23) (.tmp 23) 29 rfl (w.heap.size + 1) 3 jI _ 1 Tryd.underlying29 II.out.1 II.out.2.1 II.out.2.2.1 .i64 .i64 (n : Int) (n : Int) n rfl rfl rfl rfl (by rw [II.out.2.2.2]; omega) (by unfold maxLen; omega) (by have := Z1.out; omega) ?_
       intro w2 hown hgr
       have R2 := Lib.hid (ArI.new hown)
       have B2 : Hid (Below w.heap.size w w2) := Lib.hid (B1.out.grown hgr B1.out.size (fun g hg => by cases hg))
       have KQ2 := Lib.hid (KQ1.out.grown hgr (by simp))
       have R12 : Hid (ArI w2 (w.heap.size + 1) (w.heap.size + 1) n (List.replicate n 0)) := Lib.hid (by have := R1.out; rw [World.size_alloc] at this; exact this.stay (fun b _ hl => hgr.block b hl (by simp)))
       have e2 : w2.cell? ⟨w.heap.size, 0, none⟩ = some (.slice a n c) := KQ2.out.cell (i := 0) rfl
       have l2 := KQ2.out.lt
       clear hown hgr tok2 _t))
  have L1 : Hid (w.heap.size + 1 < w1.heap.size) := Z1
  have TB0 := Lib.hid (Tab.start l n)
  clear e1 e2 l1 l2
  go_loopw [2, 5, 6, 7, 8] (fun _ iv _ _ _ wr => ∃ (m : Nat) (SL DL : List Int), m ≤ n ∧ iv = .int .i64 ((m : Int) - 1) ∧ Hid (Tab l n m SL DL) ∧ Hid (ArI wr (w.heap.size + 1) (w.heap.size + 1) n SL) ∧ Hid (ArI wr (w.heap.size + 1) w1.heap.size n DL) ∧ Hid (Blk wr w.heap.size 24 #[.slice a n c]) ∧ Hid (Below w.heap.size w wr)) (fun _ iv _ _ _ _ => ((intOf iv) + 1).toNat)
  case atStart => exact ⟨n, _, _, Nat.le_refl _, by go_num, TB0, R12, R2, KQ2, B2⟩
  case round =>
    obtain ⟨m, SL, DL, hm, rfl, HT, HSb, HDb, KQw, HBw⟩ := hrel
    clear R12 R2 KQ2 B2 KQ1 B1 R1
    obtain ⟨wo, hwo⟩ : ∃ W, W = wr := ⟨wr, rfl⟩
    subst hwo
    have q0 : wo.cell? ⟨w.heap.size, 0, none⟩ = some (.slice a n c) := KQw.out.cell (i := 0) rfl
    have lq := KQw.out.lt
    by_cases hlt : 0 < m
    · obtain ⟨i, rfl⟩ : ∃ i, m = i + 1 := ⟨m - 1, by omega⟩
      have hie : ((i + 1 : Nat) : Int) - 1 = (i : Int) := by omega
      rw [hie]
      have i0 : (0 : Int) ≤ (i : Int) := Int.natCast_nonneg _
      have di : decide ((0 : Int) ≤ (i : Int)) = true := by simp
      have ilt : i < n := by omega
      have iln : (i : Int) < (n : Int) := by omega
      obtain ⟨d, hd⟩ := get_some HN.out ilt
      have hwr : Below w0.heap.size w0 wo := HW.out.trans (HBw.out.mono HW.out.size)
      obtain ⟨bN, off, x, rfl, hbN, _, ⟨kv, rfl, hks⟩, hx⟩ := (HS.out.below hwr).at_ hd
      obtain ⟨ka, kc, rfl, _⟩ := hks.form
      obtain ⟨kn, hkn⟩ : ∃ z, d.kids.length = z := ⟨_, rfl⟩
      rw [hkn] at hks hx
      have hkc := hks.caps
      have kn63 : kn ≤ 9223372036854775807 := by unfold maxLen at hkc; omega
      have x0 : wo.cell? ⟨bN, off + i * 4, none⟩ = some (.int .i64 d.kind) := hx 0 _ rfl
      have x1 : wo.cell? ⟨bN, off + i * 4 + 1, none⟩ = some (.string (txt d.text)) := hx 1 _ rfl
      have x2 : wo.cell? ⟨bN, off + i * 4 + 2, none⟩ = some (.int .i64 d.num) := hx 2 _ rfl
      have x3 : wo.cell? ⟨bN, off + i * 4 + 3, none⟩ = some (.slice ka kn kc) := hx 3 _ rfl
      have w0le := hwr.size
      have HKS := Lib.hid hks
      have HWR := Lib.hid hwr
      have HKN := Lib.hid hkn
      have HD := Lib.hid hd
      have hstep := met_step HN.out hd
      have hnd := HOK.out d (List.mem_iff_getElem?.2 ⟨i, hd⟩)
      have lbN : bN < wo.heap.size := by omega
      have BG : Hid (Below wo.heap.size wo (wo.alloc (.cells #[.int .i64 d.kind, .string (txt d.text), .int .i64 d.num, .slice ka kn kc] 46))) := Lib.hid ((Below.refl _ _).alloc (Nat.le_refl _) _)
      have G3 : Hid (Blk (wo.alloc (.cells #[.int .i64 d.kind, .string (txt d.text), .int .i64 d.num, .slice ka kn kc] 46)) wo.heap.size 46 #[.int .i64 d.kind, .string (txt d.text), .int .i64 d.num, .slice ka kn kc]) := Lib.hid (Blk.new _ _ _)
      have MAYC : Hid (∀ W, Calls Tryd.prog 23 #[.agg #[.int .i64 d.kind, .string (txt d.text), .int .i64 d.num, .slice ka kn kc]] W fun e w' => e = .returned (.bool (mayE d)) ∧ Below W.heap.size W w') := Lib.hid (fun W => by
        have := r_may d.kind d.text d.num d.kids ka kn kc HKN.out.symm kn63 hnd.1 hnd.2.1 W
        exact this)
      have HST := Lib.hid hstep
      clear hd hks hx hwr hkn hbN hkc hstep hnd hie
      obtain ⟨mb, hmb⟩ : ∃ b, mayE d = b := ⟨_, rfl⟩
      rw [hmb] at MAYC HST
      clear hmb
      cases mb with
      | false =>
        have hv : (80 : Nat) = R := (HR3.out i ilt n256 (by have := HST.out; rw [if_neg (by simp)] at this; exact this)).symm
        have HV := Lib.hid hv
        clear hv
        go_wp2_with (first
          | (go_at_call 23
             go_must (refine (MAYC.out _).mono ?_)
             go_must (rintro e w4 ⟨rfl, b4⟩)
             have B4 : Hid (Below wo.heap.size wo w4) := Lib.hid (BG.out.trans (b4.mono BG.out.size))
             have G4 := Lib.hid (G3.out.below b4 G3.out.lt)
             have q3 : w4.cell? ⟨wo.heap.size, 3, none⟩ = some (.slice ka kn kc) := G4.out.cell (i := 3) rfl
             have lg4 := G4.out.lt
             have KQ4 := Lib.hid (KQw.out.below B4.out KQw.out.lt)
             have e4 : w4.cell? ⟨w.heap.size, 0, none⟩ = some (.slice (some ⟨bN, off, none⟩) n c) := KQ4.out.cell (i := 0) rfl
             have lq4 := KQ4.out.lt
             have S4 := Lib.hid (ArI.keep HSb.out B4.out)
             have D4 := Lib.hid (ArI.keep HDb.out B4.out)
             clear b4))
        go_ret
        exact ⟨by rw [← HV.out]; rfl, HBw.out.trans (B4.out.mono HBw.out.size)⟩
      | true =>
        have hst : metN l n i = (metL (metN l n) d.kids (i + 1) 0).map fun r => (r.1 + 1, r.2) := by have := HST.out; rw [if_pos rfl] at this; exact this
        have HST2 := Lib.hid hst
        have HT2 := HT
        clear hst HST
        go_wp2_with (first
          | (go_at_call 23
             go_must (refine (MAYC.out _).mono ?_)
             go_must (rintro e w4 ⟨rfl, b4⟩)
             have B4 : Hid (Below wo.heap.size wo w4) := Lib.hid (BG.out.trans (b4.mono BG.out.size))
             have G4 := Lib.hid (G3.out.below b4 G3.out.lt)
             have q3 : w4.cell? ⟨wo.heap.size, 3, none⟩ = some (.slice ka kn kc) := G4.out.cell (i := 3) rfl
             have lg4 := G4.out.lt
             have KQ4 := Lib.hid (KQw.out.below B4.out KQw.out.lt)
             have e4 : w4.cell? ⟨w.heap.size, 0, none⟩ = some (.slice (some ⟨bN, off, none⟩) n c) := KQ4.out.cell (i := 0) rfl
             have lq4 := KQ4.out.lt
             have S4 := Lib.hid (ArI.keep HSb.out B4.out)
             have D4 := Lib.hid (ArI.keep HDb.out B4.out)
             clear b4))
        clear x0 x1 x2 x3 q0
        have HM0 : Hid (metL (metN l n) d.kids (i + 1) 0 = metL (metN l n) (d.kids.drop 0) (i + 1) 0) := Lib.hid rfl
        have D40 : Hid (ArI w4 (w.heap.size + 1) w1.heap.size n (DL.set i ((0 : Nat) : Int))) := Lib.hid (by
          have hl := HT2.out.2.1
          have h0 := HT2.out.2.2.2 i (by omega) ilt
          have e : DL.set i ((0 : Nat) : Int) = DL := by
            apply List.ext_getElem?
            intro j
            rw [List.getElem?_set]
            split
            · rename_i e; subst e; rw [if_pos (by omega), h0]; rfl
            · rfl
          rw [e]
          exact D4.out)
        have LG4 := Lib.hid lg4
        have GB : Hid (w1.heap.size < wo.heap.size) := Lib.hid (ArI.lt HDb.out).2
        clear q3 e4 D4
        go_hide hQ
        go_loopw [2, 7, 8] (fun _ nv kv wr => ∃ (k e dp : Nat), k ≤ kn ∧ kv = .int .i64 (k : Int) ∧ nv = .int .i64 (e : Int) ∧ i + 1 ≤ e ∧ e ≤ n ∧ dp ≤ n ∧ Hid (metL (metN l n) d.kids (i + 1) 0 = metL (metN l n) (d.kids.drop k) e dp) ∧ Hid (ArI wr (w.heap.size + 1) w1.heap.size n (DL.set i (dp : Int))) ∧ Hid (ArI wr (w.heap.size + 1) (w.heap.size + 1) n SL) ∧ Hid (Blk wr wo.heap.size 46 #[.int .i64 d.kind, .string (txt d.text), .int .i64 d.num, .slice ka kn kc]) ∧ Hid (Blk wr w.heap.size 24 #[.slice (some ⟨bN, off, none⟩) n c]) ∧ Hid (Below w.heap.size w wr)) (fun _ _ kv _ => kn - (intOf kv).toNat)
        case atStart => exact ⟨0, i + 1, 0, Nat.zero_le _, rfl, by go_num, Nat.le_refl _, by omega, by omega, HM0, D40, S4, G4, KQ4, Lib.hid (HBw.out.trans (B4.out.mono HBw.out.size))⟩
        case round =>
          obtain ⟨k, e, dp, hk, rfl, rfl, he1, hen, hdp, HM, HDr, HSr, HGr, HQr, HBr⟩ := hrel
          clear S4 G4 KQ4 B4 D40
          obtain ⟨wi, hwi⟩ : ∃ W, W = wr := ⟨wr, rfl⟩
          subst hwi
          have k0 : (0 : Int) ≤ (k : Int) := Int.natCast_nonneg _
          have e0 : (0 : Int) ≤ (e : Int) := Int.natCast_nonneg _
          have e6 : (e : Int) ≤ 256 := by omega
          have p3 : wi.cell? ⟨wo.heap.size, 3, none⟩ = some (.slice ka kn kc) := HGr.out.cell (i := 3) rfl
          have pq : wi.cell? ⟨w.heap.size, 0, none⟩ = some (.slice (some ⟨bN, off, none⟩) n c) := HQr.out.cell (i := 0) rfl
          have lg := HGr.out.lt
          have lqi := HQr.out.lt
          by_cases hkl : k < kn
          · obtain ⟨kk, hkk⟩ := get_some HKN.out hkl
            have hw2 : Below w0.heap.size w0 wi := HW.out.trans (HBr.out.mono HW.out.size)
            obtain ⟨bK, offK, xk, rfl, hbK, _, hxk, hck⟩ := (HKS.out.below hw2).at_ hkk
            have hxk : xk = [.int .i64 kk] := hxk
            subst hxk
            have kc0 := hck 0 _ rfl
            simp only [Nat.mul_one, Nat.add_zero] at kc0
            have lbK : bK < wi.heap.size := by have := hw2.size; omega
            have hdr : d.kids.drop k = kk :: d.kids.drop (k + 1) := by
              obtain ⟨h1, h2⟩ := List.getElem?_eq_some_iff.1 hkk
              rw [List.drop_eq_getElem_cons h1, h2]
            have hm2 := HM.out
            rw [hdr] at hm2
            simp only [metL] at hm2
            clear hkk hw2 hck hbK hdr
            by_cases hke : kk = (e : Int)
            rotate_left
            · have t1 : (kk != (e : Int)) = true := by simpa using hke
              rw [if_neg hke] at hm2
              have hv : (80 : Nat) = R := (HR3.out i ilt n256 (by rw [HST2.out, hm2]; rfl)).symm
              have HV := Lib.hid hv
              clear hv hm2 hke
              subst hQ
              go_wp2_with fail
              go_ret
              exact ⟨by rw [← HV.out]; rfl, HBr.out⟩
            rw [if_pos hke] at hm2
            subst hke
            have t1 : ((e : Int) != (e : Int)) = false := by simp
            by_cases hee : n ≤ e
            · have t2 : decide ((n : Int) ≤ (e : Int)) = true := by simp only [decide_eq_true_eq]; omega
              have t3 : decide (n ≤ e) = true := by simpa using hee
              have hmn : metN l n e = none := by
                cases n with
                | zero => rfl
                | succ n => rw [metN, List.getElem?_eq_none (by rw [HN.out]; omega)]
              rw [hmn] at hm2
              have hv : (80 : Nat) = R := (HR3.out i ilt n256 (by rw [HST2.out, hm2]; rfl)).symm
              have HV := Lib.hid hv
              clear hv hm2 hee hmn
              subst hQ
              go_wp2_with fail
              go_ret
              exact ⟨by rw [← HV.out]; rfl, HBr.out⟩
            have t2 : decide ((n : Int) ≤ (e : Int)) = false := by simp only [decide_eq_false_iff_not]; omega
            have t3 : decide (n ≤ e) = false := by simpa using hee
            obtain ⟨dq, sz, hmq, hsq, hdq⟩ := HT.out.2.2.1 e he1 (by omega)
            rw [hmq] at hm2
            simp only at hm2
            have hin := metN_in l n e _ hmq
            simp only [HN.out] at hin
            have c1 := ArI.cell HDr.out (i := i) (z := (dp : Int)) (by rw [List.getElem?_set_self (by rw [HT.out.2.1]; exact ilt)])
            have c2 := ArI.cell HDr.out (i := e) (z := (dq : Int)) (by rw [List.getElem?_set_ne (by omega)]; exact hdq)
            have c3 := ArI.cell HSr.out hsq
            have fz := ArI.froz HDr.out np i
            have lD := (ArI.lt HDr.out).2
            have lS := (ArI.lt HSr.out).2
            have een : (e : Int) < (n : Int) := by omega
            have enn : e < n := by omega
            have dp6 : (dp : Int) ≤ 256 := by omega
            have dq6 : (dq : Int) ≤ 256 := by omega
            have sz6 : (e : Int) + (sz : Int) ≤ 256 := by omega
            have sz0 : (0 : Int) ≤ (sz : Int) := Int.natCast_nonneg _
            have dp0 : (0 : Int) ≤ (dp : Int) := Int.natCast_nonneg _
            have dq0 : (0 : Int) ≤ (dq : Int) := Int.natCast_nonneg _
            have iee : i ≠ e := by omega
            have eei : e ≠ i := by omega
            have bne : w1.heap.size ≠ w.heap.size + 1 := by have := L1.out; omega
            have bne2 : w.heap.size + 1 ≠ w1.heap.size := by have := L1.out; omega
            have HM2 := Lib.hid hm2
            have he2 : e + sz ≤ n := by omega
            have hd2 : max dp dq ≤ n := by omega
            have he3 : i + 1 ≤ e + sz := by omega
            clear hm2 hmq hsq hdq hin hee
            go_wp2_with fail
            go_still_tail 12, (by kernel_rfl)
            change wpList _ _ _ _ _ wi.drew
            go_wp2_with fail
            go_roundw
            case rel =>
              refine ⟨k + 1, e + sz, max dp dq, by omega, by go_num, by go_num, he3, he2, hd2, HM2, Lib.hid ?_, Lib.hid ?_, Lib.hid ?_, Lib.hid ?_, Lib.hid ?_⟩
              · have ee : ((max dp dq : Nat) : Int) = max (dp : Int) (dq : Int) := by omega
                have h1 := (ArI.set HDr.out ilt (max (dp : Int) (dq : Int))).drew
                rw [List.set_set] at h1
                rw [ee]
                exact h1
              · exact (ArI.far HSr.out (p := ⟨w1.heap.size, i, none⟩) bne _).drew
              · exact HGr.out.far (p := ⟨w1.heap.size, i, none⟩) (Nat.ne_of_gt GB.out) _
              · exact HQr.out.far (p := ⟨w1.heap.size, i, none⟩) (by have := L1.out; show w.heap.size ≠ w1.heap.size; omega) _
              · exact (HBr.out.setCell (p := ⟨w1.heap.size, i, none⟩) (by have := L1.out; show w.heap.size ≤ w1.heap.size; omega) _).drew
            case measure => simp [intOf]; omega
          · obtain rfl : k = kn := by omega
            have djj : decide (k < k) = false := by simp
            have hfin : metN l n i = some (dp + 1, e) := by
              rw [HST2.out, HM.out, List.drop_of_length_le (by rw [HKN.out]; exact Nat.le_refl _)]
              rfl
            have hin := metN_in l n i _ hfin
            simp only [HN.out] at hin
            have HFIN := Lib.hid hfin
            have c1 := ArI.cell HDr.out (i := i) (z := (dp : Int)) (by rw [List.getElem?_set_self (by rw [HT.out.2.1]; exact ilt)])
            have hS0 : ∃ z, SL[i]? = some z := get_some HT.out.1 ilt
            obtain ⟨s0, hs0⟩ := hS0
            have c3 := ArI.cell HSr.out hs0
            have fz := ArI.froz HDr.out np i
            have fs := ArI.froz HSr.out np i
            have lD := (ArI.lt HDr.out).2
            have lS := (ArI.lt HSr.out).2
            have dp6 : (dp : Int) ≤ 256 := by omega
            have dp0 : (0 : Int) ≤ (dp : Int) := Int.natCast_nonneg _
            have bne : w1.heap.size ≠ w.heap.size + 1 := by have := L1.out; omega
            have bne2 : w.heap.size + 1 ≠ w1.heap.size := by have := L1.out; omega
            have ei : (i : Int) + 1 ≤ (e : Int) := by omega
            clear hfin hin hs0 hkl
            subst hQ
            go_wp2_with fail
            go_roundw
            case rel =>
              refine ⟨i, SL.set i ((e - i : Nat) : Int), (DL.set i (dp : Int)).set i ((dp + 1 : Nat) : Int), by omega, by go_num, Lib.hid ?_, Lib.hid ?_, Lib.hid ?_, Lib.hid ?_, Lib.hid ?_⟩
              · obtain ⟨t1, t2, t3, t4⟩ := HT.out
                refine ⟨by rw [List.length_set, t1], by rw [List.length_set, List.length_set, t2], fun x h1 h2 => ?_, fun x h1 h2 => ?_⟩
                · by_cases hx : x = i
                  · subst hx
                    exact ⟨dp + 1, e - x, by rw [HFIN.out]; congr 2; omega, by rw [List.getElem?_set_self (by omega)], by rw [List.getElem?_set_self (by rw [List.length_set]; omega)]⟩
                  · obtain ⟨a1, a2, a3, a4, a5⟩ := t3 x (by omega) h2
                    exact ⟨a1, a2, a3, by rw [List.getElem?_set_ne (by omega)]; exact a4, by rw [List.getElem?_set_ne (by omega), List.getElem?_set_ne (by omega)]; exact a5⟩
                · rw [List.getElem?_set_ne (by omega), List.getElem?_set_ne (by omega)]
                  exact t4 x (by omega) h2
              · have ee : ((e - i : Nat) : Int) = (e : Int) - (i : Int) := by omega
                rw [ee]
                exact ArI.far (ArI.set HSr.out ilt ((e : Int) - (i : Int))) (p := ⟨w1.heap.size, i, none⟩) bne _
              · exact ArI.set (ArI.far HDr.out (p := ⟨w.heap.size + 1, i, none⟩) bne2 _) ilt ((dp : Int) + 1)
              · exact (HQr.out.far (p := ⟨w.heap.size + 1, i, none⟩) (by show w.heap.size ≠ w.heap.size + 1; omega) _).far (p := ⟨w1.heap.size, i, none⟩) (by have := L1.out; show w.heap.size ≠ w1.heap.size; omega) _
              · exact (HBr.out.setCell (p := ⟨w.heap.size + 1, i, none⟩) (Nat.le_succ _) _).setCell (p := ⟨w1.heap.size, i, none⟩) (by have := L1.out; show w.heap.size ≤ w1.heap.size; omega) _
            case measure => simp [intOf] <;> omega
    · obtain rfl : m = 0 := by omega
      have hie : ((0 : Nat) : Int) - 1 = -1 := rfl
      rw [hie]
      have di : decide ((0 : Int) ≤ -1) = false := by decide
      obtain ⟨dp, sz, hmet, hs1, hd1⟩ := HT.out.2.2.1 0 (Nat.le_refl _) np
      have hv := HR4.out dp sz n256 hmet
      have hin := metN_in l n 0 _ hmet
      simp only [HN.out] at hin
      have c1 := ArI.cell HDb.out hd1
      have c3 := ArI.cell HSb.out hs1
      have lD := (ArI.lt HDb.out).2
      have lS := (ArI.lt HSb.out).2
      have n64 : (0 : Int) < (n : Int) := by omega
      have HV := Lib.hid hv
      clear hmet hs1 hd1 hv hin hlt hie
      by_cases hsz : sz = n
      · have t1 : ((sz : Int) != (n : Int)) = false := by simp; omega
        by_cases hdp : 32 < dp
        · have t2 : decide ((32 : Int) < (dp : Int)) = true := by simp only [decide_eq_true_eq]; omega
          have t3 : decide (32 < dp) = true := by simpa using hdp
          have hR : R = 4 := by rw [HV.out, if_neg (fun h => h hsz), if_pos hdp]
          have HRR := Lib.hid hR
          clear hsz hdp hR
          go_wp2_with fail
          go_region
          go_wp2_with fail
          go_ret
          exact ⟨by rw [HRR.out]; rfl, HBw.out.drew⟩
        · have t2 : decide ((32 : Int) < (dp : Int)) = false := by simp only [decide_eq_false_iff_not]; omega
          have t3 : decide (32 < dp) = false := by simpa using hdp
          have hR : R = 0 := by rw [HV.out, if_neg (fun h => h hsz), if_neg hdp]
          have HRR := Lib.hid hR
          clear hsz hdp hR
          go_wp2_with fail
          go_region
          go_wp2_with fail
          go_ret
          exact ⟨by rw [HRR.out]; rfl, HBw.out.drew⟩
      · have t1 : ((sz : Int) != (n : Int)) = true := by simp; omega
        have hR : R = 80 := by rw [HV.out, if_pos hsz]
        have HRR := Lib.hid hR
        clear hsz hR
        go_wp2_with fail
        go_region
        go_wp2_with fail
        go_ret
        exact ⟨by rw [HRR.out]; rfl, HBw.out.drew⟩
end Go.Proofs.YtidkbodmiegbkaaDoor
