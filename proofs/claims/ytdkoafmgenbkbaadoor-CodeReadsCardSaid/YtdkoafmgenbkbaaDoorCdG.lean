/- Chapter 11: Print. -/
import Derived.Test.YtdkoafmgenbkbaaDoorCdE
import Derived.Test.YtdkoafmgenbkbaaDoorCdF
import Derived.Test.YtdkoafmgenbkbaaDoorBuild
namespace Go.Proofs.YtdkoafmgenbkbaaDoor
set_option linter.unusedSimpArgs false
set_option linter.unusedVariables false
open Go.RowKit

theorem goN_plain {c : List Ins} : ∀ (m k : Nat) (l : List Pl), (goN c m k l).2 = 0 → ∀ i x, k ≤ i → i < k + m → c[i]? = some x → plainN x = true := by
  intro m
  induction m with
  | zero => intro k l h i x h1 h2; omega
  | succ m ih =>
    intro k l h i x h1 h2 hx
    unfold goN at h
    cases hs : stepN c l k with
    | none => rw [hs] at h; simp at h
    | some l' =>
      rw [hs] at h
      by_cases hi : i = k
      · subst hi
        unfold stepN at hs
        split at hs
        · rename_i p y e1 e2
          rw [hx] at e2
          injection e2 with e2
          subst e2
          split at hs
          · rename_i hh; exact hh.2
          · cases hs
        · cases hs
      · exact ih (k + 1) l' h i x (by omega) (by omega) hx
theorem right_plain {c : List Ins} (h : (rightC c).2 = 0) {i : Nat} {x : Ins} (hx : c[i]? = some x) : plainN x = true := by
  unfold rightC at h
  split at h
  · cases h
  · exact goN_plain _ _ _ h i x (Nat.zero_le _) (by have := (List.getElem?_eq_some_iff.1 hx).1; omega) hx
theorem line_small {x : Ins} (hx : x.ok) (h : plainN x = true) : (lineC x).length ≤ 17000 ∧ Bytes (lineC x) := by
  have h1 := word_small x.op
  have h2 := show_small hx.2.1
  have h3 := show_small hx.2.2.1
  have ht3 : hasN x.op = 3 → x.text.size ≤ 4096 := by
    intro e
    unfold plainN at h
    simp only [Bool.and_eq_true, e, if_pos, decide_eq_true_eq] at h
    exact h.2
  have ht4 : hasN x.op = 4 → x.text.size ≤ 32 := by
    intro e
    unfold plainN at h
    simp [e] at h
    have := name_small h.2
    rwa [bs_len] at this
  have hb : ∀ v : Int, Bytes (showN v) := fun v => by
    intro n hn
    unfold showN at hn
    split at hn
    · rcases List.mem_cons.1 hn with rfl | hn
      · omega
      · have := dec_digits _ n hn; omega
    · have := dec_digits _ n hn; omega
  have h32 : ∀ l : List Nat, Bytes l → Bytes (32 :: l) := fun l hl n hn => by
    rcases List.mem_cons.1 hn with rfl | hn
    · omega
    · exact hl n hn
  unfold lineC
  rw [List.length_append, bs_len]
  rcases hasN_le x.op with e | e | e | e | e | e
  all_goals rw [e]
  · exact ⟨by simp; omega, bytes_app (bs_bytes _) bytes_nil⟩
  · exact ⟨by simp; omega, bytes_app (bs_bytes _) (h32 _ (hb _))⟩
  · exact ⟨by simp; omega, bytes_app (bs_bytes _) (h32 _ (hb _))⟩
  · have h5 := flat_len (bs x.text)
    have h6 := ht3 e
    rw [bs_len] at h5
    refine ⟨?_, bytes_app (bs_bytes _) (h32 _ (quote_bytes (bs_bytes _)))⟩
    unfold quoteN
    simp only [List.length_cons, List.length_append, List.length_nil]
    omega
  · have h6 := ht4 e
    exact ⟨by simp [bs_len]; omega, bytes_app (bs_bytes _) (h32 _ (bs_bytes _))⟩
  · exact ⟨by simp; omega, bytes_app (bs_bytes _) (h32 _ (hb _))⟩
theorem text_take {c : List Ins} {k : Nat} {x : Ins} (h : c[k]? = some x) : textC (c.take (k + 1)) = textC (c.take k) ++ (lineC x ++ [10]) := by
  have hk := (List.getElem?_eq_some_iff.1 h).1
  unfold textC
  rw [List.take_add_one, h, Option.toList_some, List.flatMap_append]
  simp
theorem text_ge (c : List Ins) (k : Nat) : (textC (c.take k)).length ≤ (textC c).length := by
  have : textC c = textC (c.take k) ++ textC (c.drop k) := by
    unfold textC
    rw [← List.flatMap_append, List.take_append_drop]
  rw [this, List.length_append]
  omega

set_option maxRecDepth 100000 in
set_option maxHeartbeats 8000000 in
theorem print_any {cl : List Ins} {v : Value} (w w0 : World) (hs : SlR w0 w0.heap.size 4 Ins.Is v cl) (hw : Below w0.heap.size w0 w) (hwd : WordsIs w) (hpw : Pow w) :
    Calls Tryd.prog 8 #[.agg #[v]] w fun e w' => e = .returned (.tuple #[.string (txt (printC cl).1), .int .i64 ((printC cl).2 : Int)]) ∧ Below w.heap.size w w' := by
  obtain ⟨a, c, rfl⟩ : ∃ a c, v = .slice a cl.length c := by obtain ⟨a, c, h, _⟩ := hs.form; exact ⟨a, c, h⟩
  have hn : cl.length ≤ 9223372036854775807 := by have := hs.caps; unfold maxLen at this; omega
  have RC := Lib.hid (fun W (hW : Below w.heap.size w W) => right_code W w0 hs (hw.trans (hW.mono hw.size)))
  obtain ⟨n, hlen⟩ : ∃ n, cl.length = n := ⟨_, rfl⟩
  rw [hlen] at hs hn RC ⊢
  have Hlen := Lib.hid hlen
  have Hs := Lib.hid hs
  have Hw := Lib.hid hw
  have HWD := Lib.hid hwd
  have HPW := Lib.hid hpw
  clear hs hlen hw hwd hpw
  obtain ⟨R, hR⟩ : ∃ R, printC cl = R := ⟨_, rfl⟩
  rw [hR]
  have HR := Lib.hid hR
  clear hR
  obtain ⟨e1, he1⟩ : ∃ x, (rightC cl).1 = x := ⟨_, rfl⟩
  obtain ⟨e2, he2⟩ : ∃ x, (rightC cl).2 = x := ⟨_, rfl⟩
  rw [he1, he2] at RC
  have HE := Lib.hid he2
  clear he1 he2
  have BX : Hid (Blk (w.alloc (.cells #[.slice a n c] 24)) w.heap.size 24 #[.slice a n c]) := Lib.hid (Blk.new w _ _)
  by_cases hz : e2 = 0
  · subst hz
    have hall : ∀ (i : Nat) (x : Ins), cl[i]? = some x → plainN x = true := fun i x hx => right_plain HE.out hx
    have HALL := Lib.hid hall
    have hno : printC cl = if 1048576 < (textC cl).length then ([], 3) else (textC cl, 0) := by unfold printC; rw [if_neg (by rw [HE.out]; simp)]
    rw [HR.out] at hno
    have HNO := Lib.hid hno
    clear hall hno
    go_enter Tryd.func8, Tryd.ntmps8
    go_wp2_with (first
      | (go_at_call 6; refine (RC.out _ ((Below.refl _ _).alloc (Nat.le_refl _) _)).mono ?_; rintro e w1 ⟨rfl, hb⟩; have H1 : Hid (Below w.heap.size w w1) := Lib.hid (((Below.refl _ _).alloc (Nat.le_refl _) _).trans (hb.mono (by simp))); have B1 := BX.out.below hb BX.out.lt; have c0 : w1.cell? ⟨w.heap.size, 0, none⟩ = some (.slice a n c) := B1.cell rfl; have hl1 := B1.lt; clear hb B1)
      | fail)
    go_loopw [8, 20] (fun _ j wr => ∃ k : Nat, k ≤ n ∧ j = .int .i64 (k : Int) ∧ (textC (cl.take k)).length ≤ 1048576 ∧ Hid (BuiltSt wr w1.heap.size w1.heap.size (textC (cl.take k)) ∧ Below w.heap.size w wr) ∧ w1.heap.size < wr.heap.size) (fun _ j _ => n - (intOf j).toNat)
    case atStart => exact ⟨0, Nat.zero_le _, rfl, by simp [textC], Lib.hid ⟨BuiltSt.new w1, H1.out.alloc H1.out.size _⟩, by simp⟩
    case round =>
      obtain ⟨k, hk, rfl, ho, hB, hwz⟩ := hrel
      have b1 : (0 : Int) ≤ (k : Int) := Int.natCast_nonneg _
      have hbz := H1.out.size
      have hbz2 := hB.out.2.size
      by_cases hlt : k < n
      · obtain ⟨y, hd⟩ := get_some Hlen.out hlt
        have hw1 := Hw.out.trans (hB.out.2.mono Hw.out.size)
        obtain ⟨b, off, x, rfl, hbB, hxl, ⟨rfl, hok⟩, hx⟩ := (Hs.out.below hw1).at_ hd
        have h0 := hx 0 _ rfl
        have h1 := hx 1 _ rfl
        have h2 := hx 2 _ rfl
        have h3 := hx 3 _ rfl
        simp only [Nat.add_zero] at h0
        have hpl := HALL.out k y hd
        have SH : Hid (∀ W, Below w.heap.size w W → Calls Tryd.prog 23 #[.agg #[.int .i64 y.op, .int .i64 y.arg, .int .i64 y.int, .string y.text]] W fun e w' => e = .returned (.string (txt (lineC y ++ [10]))) ∧ Below W.heap.size W w') := Lib.hid (fun W hW => shown_any y hok hpl W (HWD.out.below hW) (HPW.out.below hW))
        have Hls := Lib.hid (line_small hok hpl)
        have HT1 : Hid (textC (cl.take k) ++ (lineC y ++ [10]) = textC (cl.take (k + 1))) := Lib.hid (text_take hd).symm
        have hlen1 : (textC (cl.take (k + 1))).length ≤ 1048576 + 17001 := by rw [← HT1.out, List.length_append, List.length_append]; have := Hls.out.1; simp; omega
        have hge := text_ge cl (k + 1)
        obtain ⟨T, hT⟩ : ∃ T, textC (cl.take (k + 1)) = T := ⟨_, rfl⟩
        rw [hT] at HT1 hlen1 hge
        have HT := Lib.hid hT
        clear hd hx hxl hw1 hok hpl hT
        by_cases hlong : 1048576 < T.length
        · have dl : decide (1048576 < (T.length : Int)) = true := by simp only [decide_eq_true_eq]; omega
          have HV : Hid (R = ([], 3)) := Lib.hid (by rw [HNO.out, if_pos (by omega)])
          clear hge
          go_wp2_with (first
              | (go_at_call 23
                 refine (SH.out _ (hB.out.2.alloc hbz2 _)).mono ?_
                 rintro e w3 ⟨rfl, b3⟩
                 have S3 := Lib.hid (And.intro ((hB.out.1.keep ((Below.refl _ _).alloc (Nat.le_refl _) _)).keep b3) ((hB.out.2.alloc hbz2 _).trans (b3.mono (Nat.le_trans hbz2 (by simp)))))
                 have z3 : w1.heap.size ≤ w3.heap.size := Nat.le_trans (Nat.le_trans (Nat.le_of_lt hwz) (by simp)) b3.size
                 clear b3)
              | (go_at_call 22
                 refine (write_text _ S3.out.1 (by rw [txt_size, List.length_append]; simp; have := Hls.out.1; omega) z3).mono ?_
                 rintro e w4 ⟨rfl, s4, b4, _⟩
                 rw [bs_txt (bytes_app Hls.out.2 (fun n hn => by simp at hn; omega)), HT1.out] at s4
                 have S4 := Lib.hid (And.intro s4 (S3.out.2.trans (b4.mono hbz)))
                 have z4 : w1.heap.size < w4.heap.size := by obtain ⟨_, _, _, _, hbk, _⟩ := s4; exact hbk.lt
                 clear s4 b4)
              | (go_at_call 24
                 refine (built_len S4.out.1).mono ?_
                 rintro e w5 ⟨rfl, rfl⟩)
              | fail)
          go_ret2
          exact ⟨by rw [HV.out]; rfl, S4.out.2⟩
        · have dl : decide (1048576 < (T.length : Int)) = false := by simp only [decide_eq_false_iff_not]; omega
          clear hge
          go_wp2_with (first
              | (go_at_call 23
                 refine (SH.out _ (hB.out.2.alloc hbz2 _)).mono ?_
                 rintro e w3 ⟨rfl, b3⟩
                 have S3 := Lib.hid (And.intro ((hB.out.1.keep ((Below.refl _ _).alloc (Nat.le_refl _) _)).keep b3) ((hB.out.2.alloc hbz2 _).trans (b3.mono (Nat.le_trans hbz2 (by simp)))))
                 have z3 : w1.heap.size ≤ w3.heap.size := Nat.le_trans (Nat.le_trans (Nat.le_of_lt hwz) (by simp)) b3.size
                 clear b3)
              | (go_at_call 22
                 refine (write_text _ S3.out.1 (by rw [txt_size, List.length_append]; simp; have := Hls.out.1; omega) z3).mono ?_
                 rintro e w4 ⟨rfl, s4, b4, _⟩
                 rw [bs_txt (bytes_app Hls.out.2 (fun n hn => by simp at hn; omega)), HT1.out] at s4
                 have S4 := Lib.hid (And.intro s4 (S3.out.2.trans (b4.mono hbz)))
                 have z4 : w1.heap.size < w4.heap.size := by obtain ⟨_, _, _, _, hbk, _⟩ := s4; exact hbk.lt
                 clear s4 b4)
              | (go_at_call 24
                 refine (built_len S4.out.1).mono ?_
                 rintro e w5 ⟨rfl, rfl⟩)
              | fail)
          go_roundw
          case rel => exact ⟨k + 1, by omega, by go_num, by rw [HT.out]; omega, Lib.hid ⟨by rw [HT.out]; exact S4.out.1, S4.out.2⟩, z4⟩
          case measure => simp [intOf]; omega
      · obtain rfl : k = n := by omega
        clear hlt
        have htk : cl.take k = cl := List.take_of_length_le (by rw [Hlen.out]; exact Nat.le_refl _)
        rw [htk] at ho hB
        have HV : Hid (R = (textC cl, 0)) := Lib.hid (by rw [HNO.out, if_neg (by omega)])
        clear htk
        go_wp2_with (first
          | (go_at_call 25
             refine (built_text hB.out.1 (Nat.le_of_lt hwz)).mono ?_
             rintro e w2 ⟨rfl, b2⟩
             have B2 := Lib.hid (hB.out.2.trans (b2.mono hbz))
             clear b2)
          | fail)
        go_ret2
        exact ⟨by rw [HV.out]; rfl, B2.out⟩
  · have hz1 : ((e2 : Int) != 0) = true := by simp; omega
    have hz2 : ((e2 : Int) == 0) = false := by simp; omega
    have hno : R = ([], e2) := by rw [← HR.out]; unfold printC; rw [if_pos (by rw [HE.out]; exact hz), HE.out]
    have HNO := Lib.hid hno
    clear hno
    go_enter Tryd.func8, Tryd.ntmps8
    go_wp2_with (first
      | (go_at_call 6; refine (RC.out _ ((Below.refl _ _).alloc (Nat.le_refl _) _)).mono ?_; rintro e w1 ⟨rfl, hb⟩; have H1 : Hid (Below w.heap.size w w1) := Lib.hid (((Below.refl _ _).alloc (Nat.le_refl _) _).trans (hb.mono (by simp))); clear hb)
      | fail)
    go_ret2
    exact ⟨by rw [HNO.out]; rfl, H1.out⟩

end Go.Proofs.YtdkoafmgenbkbaaDoor
