/- The law's walk: 'topiarylaw01.NamesGrow' returns true whatever the text and the byte; the library's variables hold what they began with. -/
import Derived.Test.YtffhogadgjnkkaaDoorAwake
import Derived.Deep.CutRange
namespace Go.Proofs.YtffhogadgjnkkaaDoor
open Go.RowKit

theorem right_take {l : List Nat} (h : rightN l = true) {k : Nat} (h1 : 1 ≤ k) : rightN (l.take k) = true := by
  cases l with
  | nil => simp [rightN] at h
  | cons c t =>
    obtain ⟨k, rfl⟩ : ∃ j, k = j + 1 := ⟨k - 1, by omega⟩
    simp only [rightN, Bool.and_eq_true, decide_eq_true_eq, List.length_cons, List.take_succ_cons] at h ⊢
    obtain ⟨⟨h2, h3⟩, h4⟩ := h
    refine ⟨⟨by rw [List.length_take]; omega, h3⟩, ?_⟩
    rw [List.all_cons, Bool.and_eq_true] at h4 ⊢
    refine ⟨h4.1, ?_⟩
    rw [List.all_eq_true] at h4 ⊢
    exact fun x hx => h4.2 x (List.mem_of_mem_take hx)
theorem right_more {l : List Nat} (h : rightN l = true) (m : Nat) : rightN (l ++ [m]) = (furtherN m && decide (l.length < 32)) := by
  cases l with
  | nil => simp [rightN] at h
  | cons c t =>
    simp only [rightN, Bool.and_eq_true, decide_eq_true_eq, List.length_cons] at h
    obtain ⟨⟨h2, h3⟩, h4⟩ := h
    have e : c :: t ++ [m] = c :: (t ++ [m]) := rfl
    rw [e]
    simp only [rightN, h3, List.length_cons, List.length_append, List.length_nil, Bool.and_true]
    rw [← e, List.all_append, h4]
    simp only [List.all_cons, List.all_nil, Bool.and_true, Bool.true_and]
    rw [Bool.and_comm]
    congr 1
theorem own_of_right {l : List Nat} (h : rightN l = true) : ownN l = false := by
  cases l with
  | nil => rfl
  | cons c t =>
    simp only [rightN, Bool.and_eq_true, letterN, decide_eq_true_eq] at h
    have : c ≠ 63 := by omega
    simp [ownN, this]
theorem right_len {l : List Nat} (h : rightN l = true) : l.length ≤ 32 := by
  cases l with
  | nil => simp [rightN] at h
  | cons c t =>
    simp only [rightN, Bool.and_eq_true, decide_eq_true_eq] at h
    exact h.1.1
theorem show_head (v : Int) : ∃ c t, showN v = c :: t ∧ (c = 45 ∨ (48 ≤ c ∧ c ≤ 57)) := by
  unfold showN
  split
  · exact ⟨45, _, rfl, Or.inl rfl⟩
  · cases h : dec v.toNat with
    | nil => exact absurd h (dec_ne _)
    | cons c t => exact ⟨c, t, rfl, Or.inr (dec_digits v.toNat c (by rw [h]; simp))⟩
theorem int_not_right {l : List Nat} {v : Int} (h : intN l = some v) : rightN l = false ∧ fitsN 3 l = false ∧ l.length ≤ 20 := by
  obtain ⟨_, _, h3, h4⟩ := intN_some h
  obtain ⟨c, t, e, hc⟩ := show_head v
  rw [h3] at e
  subst e
  refine ⟨?_, ?_, h4⟩
  · have : letterN c = false := by simp [letterN]; omega
    simp [rightN, this]
  · show decide (c :: t = [116, 114, 117, 101] ∨ c :: t = [102, 97, 108, 115, 101]) = false
    rw [decide_eq_false_iff_not]
    intro hx
    rcases hx with hx | hx
    · injection hx with hx _; omega
    · injection hx with hx _; omega
/-- what a text can be -/
theorem kinds_of (l : List Nat) : (rightN l = true ∧ fitsN 2 l = false ∧ fitsN 1 l = true) ∨ (rightN l = false ∧ fitsN 3 l = false ∧ fitsN 2 l = true ∧ fitsN 1 l = true) ∨ (rightN l = false ∧ fitsN 3 l = false ∧ fitsN 2 l = false) := by
  have h1 : fitsN 1 l = decide (l.length ≤ 4096) := rfl
  have h2 : fitsN 2 l = (intN l).isSome := rfl
  rcases hr : rightN l with _ | _
  · have h3 : fitsN 3 l = false := by
      rcases h : fitsN 3 l with _ | _
      · rfl
      · have h' : decide (l = [116, 114, 117, 101] ∨ l = [102, 97, 108, 115, 101]) = true := h
        rw [decide_eq_true_eq] at h'
        rcases h' with rfl | rfl
        · exact absurd hr (by decide)
        · exact absurd hr (by decide)
    cases hi : intN l with
    | none => exact Or.inr (Or.inr ⟨rfl, h3, by rw [h2, hi]; rfl⟩)
    | some v => exact Or.inr (Or.inl ⟨rfl, h3, by rw [h2, hi]; rfl, by rw [h1]; have := (int_not_right hi).2.2; simp; omega⟩)
  · left
    refine ⟨rfl, ?_, by rw [h1]; have := right_len hr; simp; omega⟩
    cases hi : intN l with
    | none => rw [h2, hi]; rfl
    | some v => have := (int_not_right hi).1; rw [hr] at this; cases this
theorem cut_bool (x : Value) (b : Bool) (h : x = .bool b) : x = .bool b := h

/-- the bytes by which a name goes on, class by class -/
theorem classes (m : Nat) : (65 ≤ m ∧ m ≤ 90) ∨ (90 < m ∧ 97 ≤ m ∧ m ≤ 122) ∨ (48 ≤ m ∧ m ≤ 57) ∨ (m = 95) ∨ (m < 48) ∨ (57 < m ∧ m < 65) ∨ (90 < m ∧ m < 97 ∧ m ≠ 95) ∨ (122 < m) := by omega

set_option maxHeartbeats 8000000 in
set_option maxRecDepth 100000 in
theorem grow_yes (s : ByteArray) (m : Nat) (hs : s.size ≤ 140737488351232) (hm : m < 256) (w : World) (hv : Vars w) (hr : rightN (bs s) = true) :
    Calls Tryd.prog 7 #[.string s, .int .u8 (m : Int)] w fun e w' => e = .returned (.bool true) ∧ Below w.heap.size w w' := by
  have hsm : s.size ≤ maxLen := by unfold maxLen; omega
  have AW := Lib.hid (awake_any w hv)
  have R1 : Hid (∀ W, Calls Tryd.prog 12 #[.string s] W fun e w' => e = .returned (.bool true) ∧ Quiet W w') := Lib.hid (fun W => hr ▸ right_any s hsm W)
  have RT : Hid (∀ (k : Nat), 1 ≤ k → k ≤ s.size → ∀ W, Calls Tryd.prog 12 #[.string (s.extract 0 k)] W fun e w' => e = .returned (.bool true) ∧ Quiet W w') := Lib.hid (fun k h1 h2 W => by
    have hb : bs (s.extract 0 k) = (bs s).take k := by rw [bs_extract, List.drop_zero]
    have := right_any (s.extract 0 k) (by rw [← bs_len, hb, List.length_take, bs_len]; unfold maxLen; omega) W
    rw [hb, right_take hr h1] at this
    exact this)
  have hl32 := right_len hr
  rw [bs_len] at hl32
  have RM : Hid (∀ W, Calls Tryd.prog 12 #[.string (s ++ txt [m])] W fun e w' => e = .returned (.bool (furtherN m && decide (s.size < 32))) ∧ Quiet W w') := Lib.hid (fun W => by
    have hb : bs (s ++ txt [m]) = bs s ++ [m] := by rw [bs_append, bs_txt (fun x hx => by simp at hx; omega)]
    have := right_any (s ++ txt [m]) (by rw [← bs_len, hb, List.length_append, bs_len]; unfold maxLen; simp; omega) W
    rw [hb, right_more hr, bs_len] at this
    exact this)
  have O2 : Hid (∀ W, Calls Tryd.prog 14 #[.string s] W fun e w' => e = .returned (.bool false) ∧ Quiet W w') := Lib.hid (fun W => own_of_right hr ▸ own_any s hsm W)
  have O1 : Hid (∀ W, Calls Tryd.prog 14 #[.string (⟨#[63]⟩ ++ s)] W fun e w' => e = .returned (.bool true) ∧ Quiet W w') := Lib.hid (fun W => by
    have hb : bs (⟨#[63]⟩ ++ s) = 63 :: bs s := by rw [bs_append]; rfl
    have := own_any (⟨#[63]⟩ ++ s) (by rw [← bs_len, hb, List.length_cons, bs_len]; unfold maxLen; omega) W
    rw [hb] at this
    have e : ownN (63 :: bs s) = rightN (bs s) := by simp [ownN]
    rw [e, hr] at this
    exact this)
  have F4 : Hid (∀ W, Below w.heap.size w W → Calls Tryd.prog 16 #[.int .i64 4, .string s] W fun e w' => e = .returned (.bool true) ∧ Below W.heap.size W w') := Lib.hid (fun W hW => by
    have := fits_any 4 s (by omega) W (hv.below hW)
    have e : fitsN 4 (bs s) = rightN (bs s) := rfl
    rw [e, hr] at this
    exact this)
  have F2 : Hid (∀ W, Below w.heap.size w W → Calls Tryd.prog 16 #[.int .i64 2, .string s] W fun e w' => e = .returned (.bool (fitsN 2 (bs s))) ∧ Below W.heap.size W w') := Lib.hid (fun W hW => fits_any 2 s (by omega) W (hv.below hW))
  have F3 : Hid (∀ W, Below w.heap.size w W → Calls Tryd.prog 16 #[.int .i64 3, .string s] W fun e w' => e = .returned (.bool (fitsN 3 (bs s))) ∧ Below W.heap.size W w') := Lib.hid (fun W hW => fits_any 3 s (by omega) W (hv.below hW))
  have F1 : Hid (∀ W, Below w.heap.size w W → Calls Tryd.prog 16 #[.int .i64 1, .string s] W fun e w' => e = .returned (.bool (fitsN 1 (bs s))) ∧ Below W.heap.size W w') := Lib.hid (fun W hW => fits_any 1 s (by omega) W (hv.below hW))
  have ht1 : fitsN 1 (bs s) = decide ((s.size : Int) ≤ 4096) := by
    show decide ((bs s).length ≤ 4096) = _
    rw [bs_len, decide_eq_decide]; omega
  have hk := kinds_of (bs s)
  rw [hr] at hk
  obtain ⟨n, hn⟩ : ∃ n, s.size = n := ⟨_, rfl⟩
  have hn' : (s.size : Int) = (n : Int) := by rw [hn]
  have Hn := Lib.hid hn
  rw [hn'] at ht1
  rw [hn] at hl32 RM RT
  rw [hn] at hs
  have HK := Lib.hid (And.intro hk ht1)
  have Hm := Lib.hid hm
  clear hv hr hk ht1 hn hsm
  go_enter Tryd.func7, Tryd.ntmps7
  go_wp2_with (first
    | (go_at_call 18; refine AW.out.mono ?_; rintro e w1 ⟨rfl, b1⟩; have B1 : Hid (Below w.heap.size w w1) := Lib.hid b1; clear b1)
    | (go_at_call 12; refine (R1.out _).mono ?_; rintro e w2 ⟨rfl, q2⟩; have B2 : Hid (Below w.heap.size w w2) := Lib.hid (B1.out.trans (q2.below _)); clear q2))
  go_loopw [6] (fun i wr => ∃ k : Nat, 1 ≤ k ∧ (k ≤ n ∨ k = 1) ∧ i = .int .i64 k ∧ Hid (Below w.heap.size w wr)) (fun i _ => n + 1 - (intOf i).toNat)
  case atStart => exact ⟨1, by omega, by omega, rfl, B2.out⟩
  case round =>
    obtain ⟨k, hk1, hk2, rfl, B3⟩ := hrel
    clear B1 B2
    by_cases hlt : k < n
    · have ek : ((k : Int)).toNat = k := Int.toNat_natCast _
      have RK := Lib.hid (RT.out k hk1 (by omega))
      go_wp2_with (go_at_call 12; refine (RK.out _).mono ?_; rintro e w4 ⟨rfl, q4⟩; have B4 : Hid (Below w.heap.size w w4) := Lib.hid (B3.out.trans (q4.below _)); clear q4)
      go_roundw
      case rel => exact ⟨k + 1, by omega, by omega, by go_num, B4.out⟩
      case measure => simp [intOf]; omega
    · have hdec : decide (k < n) = false := by simp; omega
      have hdec2 : decide ((k : Int) < (n : Int)) = false := by simp; omega
      go_upto_region 9 with fail
      go_cut [7] from 29 to 54 (fun c wx => c = .bool (furtherN m) ∧ Hid (Below w.heap.size w wx))
      case first =>
        have hcl := classes m
        rcases hcl with hc | hc | hc | hc | hc | hc | hc | hc
        · have hf : furtherN m = true := by simp [furtherN, letterN]; omega
          have t0 : decide (65 ≤ (m : Int)) = true := by simp; omega
          have t1 : decide ((m : Int) ≤ 90) = true := by simp; omega
          have t2 : decide (97 ≤ (m : Int)) = false := by simp; omega
          have t3 : decide ((m : Int) ≤ 122) = true := by simp; omega
          have t4 : decide (48 ≤ (m : Int)) = true := by simp; omega
          have t5 : decide ((m : Int) ≤ 57) = false := by simp; omega
          have t6 : ((m : Int) == 95) = false := by simp; omega
          have HF := Lib.hid hf
          clear hf hc
          go_wp2_with fail
          go_meet
          exact ⟨by rw [HF.out], B3.out⟩
        · have hf : furtherN m = true := by simp [furtherN, letterN]; omega
          have t0 : decide (65 ≤ (m : Int)) = true := by simp; omega
          have t1 : decide ((m : Int) ≤ 90) = false := by simp; omega
          have t2 : decide (97 ≤ (m : Int)) = true := by simp; omega
          have t3 : decide ((m : Int) ≤ 122) = true := by simp; omega
          have t4 : decide (48 ≤ (m : Int)) = true := by simp; omega
          have t5 : decide ((m : Int) ≤ 57) = false := by simp; omega
          have t6 : ((m : Int) == 95) = false := by simp; omega
          have HF := Lib.hid hf
          clear hf hc
          go_wp2_with fail
          go_meet
          exact ⟨by rw [HF.out], B3.out⟩
        · have hf : furtherN m = true := by simp [furtherN, letterN]; omega
          have t0 : decide (65 ≤ (m : Int)) = false := by simp; omega
          have t1 : decide ((m : Int) ≤ 90) = true := by simp; omega
          have t2 : decide (97 ≤ (m : Int)) = false := by simp; omega
          have t3 : decide ((m : Int) ≤ 122) = true := by simp; omega
          have t4 : decide (48 ≤ (m : Int)) = true := by simp; omega
          have t5 : decide ((m : Int) ≤ 57) = true := by simp; omega
          have t6 : ((m : Int) == 95) = false := by simp; omega
          have HF := Lib.hid hf
          clear hf hc
          go_wp2_with fail
          go_meet
          exact ⟨by rw [HF.out], B3.out⟩
        · have hf : furtherN m = true := by simp [furtherN, letterN]; omega
          have t0 : decide (65 ≤ (m : Int)) = true := by simp; omega
          have t1 : decide ((m : Int) ≤ 90) = false := by simp; omega
          have t2 : decide (97 ≤ (m : Int)) = false := by simp; omega
          have t3 : decide ((m : Int) ≤ 122) = true := by simp; omega
          have t4 : decide (48 ≤ (m : Int)) = true := by simp; omega
          have t5 : decide ((m : Int) ≤ 57) = false := by simp; omega
          have t6 : ((m : Int) == 95) = true := by simp; omega
          have HF := Lib.hid hf
          clear hf hc
          go_wp2_with fail
          go_meet
          exact ⟨by rw [HF.out], B3.out⟩
        · have hf : furtherN m = false := by simp [furtherN, letterN]; omega
          have t0 : decide (65 ≤ (m : Int)) = false := by simp; omega
          have t1 : decide ((m : Int) ≤ 90) = true := by simp; omega
          have t2 : decide (97 ≤ (m : Int)) = false := by simp; omega
          have t3 : decide ((m : Int) ≤ 122) = true := by simp; omega
          have t4 : decide (48 ≤ (m : Int)) = false := by simp; omega
          have t5 : decide ((m : Int) ≤ 57) = true := by simp; omega
          have t6 : ((m : Int) == 95) = false := by simp; omega
          have HF := Lib.hid hf
          clear hf hc
          go_wp2_with fail
          go_meet
          exact ⟨by rw [HF.out], B3.out⟩
        · have hf : furtherN m = false := by simp [furtherN, letterN]; omega
          have t0 : decide (65 ≤ (m : Int)) = false := by simp; omega
          have t1 : decide ((m : Int) ≤ 90) = true := by simp; omega
          have t2 : decide (97 ≤ (m : Int)) = false := by simp; omega
          have t3 : decide ((m : Int) ≤ 122) = true := by simp; omega
          have t4 : decide (48 ≤ (m : Int)) = true := by simp; omega
          have t5 : decide ((m : Int) ≤ 57) = false := by simp; omega
          have t6 : ((m : Int) == 95) = false := by simp; omega
          have HF := Lib.hid hf
          clear hf hc
          go_wp2_with fail
          go_meet
          exact ⟨by rw [HF.out], B3.out⟩
        · have hf : furtherN m = false := by simp [furtherN, letterN]; omega
          have t0 : decide (65 ≤ (m : Int)) = true := by simp; omega
          have t1 : decide ((m : Int) ≤ 90) = false := by simp; omega
          have t2 : decide (97 ≤ (m : Int)) = false := by simp; omega
          have t3 : decide ((m : Int) ≤ 122) = true := by simp; omega
          have t4 : decide (48 ≤ (m : Int)) = true := by simp; omega
          have t5 : decide ((m : Int) ≤ 57) = false := by simp; omega
          have t6 : ((m : Int) == 95) = false := by simp; omega
          have HF := Lib.hid hf
          clear hf hc
          go_wp2_with fail
          go_meet
          exact ⟨by rw [HF.out], B3.out⟩
        · have hf : furtherN m = false := by simp [furtherN, letterN]; omega
          have t0 : decide (65 ≤ (m : Int)) = true := by simp; omega
          have t1 : decide ((m : Int) ≤ 90) = false := by simp; omega
          have t2 : decide (97 ≤ (m : Int)) = true := by simp; omega
          have t3 : decide ((m : Int) ≤ 122) = false := by simp; omega
          have t4 : decide (48 ≤ (m : Int)) = true := by simp; omega
          have t5 : decide ((m : Int) ≤ 57) = false := by simp; omega
          have t6 : ((m : Int) == 95) = false := by simp; omega
          have HF := Lib.hid hf
          clear hf hc
          go_wp2_with fail
          go_meet
          exact ⟨by rw [HF.out], B3.out⟩
      case rest =>
        obtain ⟨rfl, BC⟩ := hcut
        clear B3
        have tokF : True := trivial
        have tokG : True := trivial
        have tokH : True := trivial
        have tokR : True := trivial
        have tokO : True := trivial
        obtain ⟨hk, ht1⟩ := HK.out
        have hk' : fitsN 2 (bs s) = false ∧ fitsN 1 (bs s) = true := by
          rcases hk with h | h | h
          · exact h.2
          · cases h.1
          · cases h.1
        rw [hk'.1] at F2
        rw [hk'.2] at F1 ht1
        clear hk hk'
        have hcv : (convert 38 9 (.slice (some ⟨wc.heap.size, 0, none⟩) 1 1)).run Tryd.prog (wc.alloc (.cells #[.int .u8 (m : Int)] 5)) = .ok (.string (txt [m])) (wc.alloc (.cells #[.int .u8 (m : Int)] 5)) :=
          run_text_of_row 38 9 5 Tryd.underlying38 Tryd.underlying5 Tryd.underlying9 (own_bytes (base := 0) (xs := [.int .u8 (m : Int)]) rfl (Nat.zero_le _) rfl (fun x hx => by have := Hm.out; simp at hx; omega) (by simp [maxLen]) 1 1 rfl rfl)
        have BA : Hid (Below w.heap.size w (wc.alloc (.cells #[.int .u8 (m : Int)] 5))) := Lib.hid (BC.out.alloc BC.out.size _)
        have htx : (txt [m]).size = 1 := txt_size _
        have h32 : (n < 32 ∧ decide (n < 32) = true) ∨ (¬ n < 32 ∧ decide (n < 32) = false) := by
          by_cases h : n < 32
          · exact Or.inl ⟨h, by simp; omega⟩
          · exact Or.inr ⟨h, by simp; omega⟩
        rcases hp : furtherN m with _ | _
        all_goals rcases htt : fitsN 3 (bs s) with _ | _
        all_goals rcases h32 with ⟨h32, d32⟩ | ⟨h32, d32⟩
        all_goals
          rw [hp, d32] at RM
          rw [htt] at F3
          simp only [Bool.and_true, Bool.and_false] at RM
          have e32 : decide ((n : Int) < 32) = decide (n < 32) := by rw [decide_eq_decide]; omega
          rw [d32] at e32
          have ht1' := ht1.symm
          clear ht1 htt
          go_wp2_with (first
            | (go_at_call 12; refine (RM.out _).mono ?_; rintro e w5 ⟨rfl, q5⟩; have B5 : Hid (Below w.heap.size w w5) := Lib.hid (BA.out.trans (q5.below _)); clear q5)
            | (go_at_call 14; have _t := tokO; refine (O1.out _).mono ?_; rintro e w6 ⟨rfl, q6⟩; have B6 : Hid (Below w.heap.size w w6) := Lib.hid (B5.out.trans (q6.below _)); clear q6; clear tokO _t)
            | (go_at_call 14; refine (O2.out _).mono ?_; rintro e w7 ⟨rfl, q7⟩; have B7 : Hid (Below w.heap.size w w7) := Lib.hid (B6.out.trans (q7.below _)); clear q7)
            | (go_at_call 16; have _t := tokF; refine (F4.out _ B7.out).mono ?_; rintro e w8 ⟨rfl, b8⟩; have B8 : Hid (Below w.heap.size w w8) := Lib.hid (B7.out.trans (b8.mono B7.out.size)); clear b8; clear tokF _t)
            | (go_at_call 16; have _t := tokG; refine (F2.out _ B8.out).mono ?_; rintro e w9 ⟨rfl, b9⟩; have B9 : Hid (Below w.heap.size w w9) := Lib.hid (B8.out.trans (b9.mono B8.out.size)); clear b9; clear tokG _t)
            | (go_at_call 16; have _t := tokH; refine (F3.out _ B9.out).mono ?_; rintro e w10 ⟨rfl, b10⟩; have B10 : Hid (Below w.heap.size w w10) := Lib.hid (B9.out.trans (b10.mono B9.out.size)); clear b10; clear tokH _t)
            | (go_at_call 16; refine (F1.out _ B10.out).mono ?_; rintro e w11 ⟨rfl, b11⟩; have B11 : Hid (Below w.heap.size w w11) := Lib.hid (B10.out.trans (b11.mono B10.out.size)); clear b11))
          go_ret
          exact ⟨rfl, B11.out⟩

set_option maxHeartbeats 8000000 in
set_option maxRecDepth 100000 in
theorem grow_no (s : ByteArray) (m : Nat) (hs : s.size ≤ 140737488351232) (hm : m < 256) (w : World) (hv : Vars w) (hr : rightN (bs s) = false) :
    Calls Tryd.prog 7 #[.string s, .int .u8 (m : Int)] w fun e w' => e = .returned (.bool true) ∧ Below w.heap.size w w' := by
  have hsm : s.size ≤ maxLen := by unfold maxLen; omega
  have AW := Lib.hid (awake_any w hv)
  have R1 : Hid (∀ W, Calls Tryd.prog 12 #[.string s] W fun e w' => e = .returned (.bool false) ∧ Quiet W w') := Lib.hid (fun W => hr ▸ right_any s hsm W)
  have O1 : Hid (∀ W, Calls Tryd.prog 14 #[.string (⟨#[63]⟩ ++ s)] W fun e w' => e = .returned (.bool false) ∧ Quiet W w') := Lib.hid (fun W => by
    have hb : bs (⟨#[63]⟩ ++ s) = 63 :: bs s := by rw [bs_append]; rfl
    have := own_any (⟨#[63]⟩ ++ s) (by rw [← bs_len, hb, List.length_cons, bs_len]; unfold maxLen; omega) W
    rw [hb] at this
    have e : ownN (63 :: bs s) = rightN (bs s) := by simp [ownN]
    rw [e, hr] at this
    exact this)
  have F4 : Hid (∀ W, Below w.heap.size w W → Calls Tryd.prog 16 #[.int .i64 4, .string s] W fun e w' => e = .returned (.bool false) ∧ Below W.heap.size W w') := Lib.hid (fun W hW => by
    have := fits_any 4 s (by omega) W (hv.below hW)
    have e : fitsN 4 (bs s) = rightN (bs s) := rfl
    rw [e, hr] at this
    exact this)
  have F2 : Hid (∀ W, Below w.heap.size w W → Calls Tryd.prog 16 #[.int .i64 2, .string s] W fun e w' => e = .returned (.bool (fitsN 2 (bs s))) ∧ Below W.heap.size W w') := Lib.hid (fun W hW => fits_any 2 s (by omega) W (hv.below hW))
  have F3 : Hid (∀ W, Below w.heap.size w W → Calls Tryd.prog 16 #[.int .i64 3, .string s] W fun e w' => e = .returned (.bool (fitsN 3 (bs s))) ∧ Below W.heap.size W w') := Lib.hid (fun W hW => fits_any 3 s (by omega) W (hv.below hW))
  have F1 : Hid (∀ W, Below w.heap.size w W → Calls Tryd.prog 16 #[.int .i64 1, .string s] W fun e w' => e = .returned (.bool (fitsN 1 (bs s))) ∧ Below W.heap.size W w') := Lib.hid (fun W hW => fits_any 1 s (by omega) W (hv.below hW))
  have ht1 : fitsN 1 (bs s) = decide ((s.size : Int) ≤ 4096) := by
    show decide ((bs s).length ≤ 4096) = _
    rw [bs_len, decide_eq_decide]; omega
  have hk := kinds_of (bs s)
  rw [hr] at hk
  obtain ⟨n, hn⟩ : ∃ n, s.size = n := ⟨_, rfl⟩
  have hn' : (s.size : Int) = (n : Int) := by rw [hn]
  have Hn := Lib.hid hn
  rw [hn'] at ht1
  rw [hn] at hs
  have HK := Lib.hid (And.intro hk ht1)
  have Hm := Lib.hid hm
  clear hv hr hk ht1 hn hsm
  go_enter Tryd.func7, Tryd.ntmps7
  go_wp2_with (first
    | (go_at_call 18; refine AW.out.mono ?_; rintro e w1 ⟨rfl, b1⟩; have B1 : Hid (Below w.heap.size w w1) := Lib.hid b1; clear b1)
    | (go_at_call 12; refine (R1.out _).mono ?_; rintro e w2 ⟨rfl, q2⟩; have B2 : Hid (Below w.heap.size w w2) := Lib.hid (B1.out.trans (q2.below _)); clear q2))
  go_loopw [6] (fun i wr => ∃ k : Nat, 1 ≤ k ∧ (k ≤ n ∨ k = 1) ∧ i = .int .i64 k ∧ Hid (Below w.heap.size w wr)) (fun i _ => n + 1 - (intOf i).toNat)
  case atStart => exact ⟨1, by omega, by omega, rfl, B2.out⟩
  case round =>
    obtain ⟨k, hk1, hk2, rfl, B3⟩ := hrel
    clear B1 B2
    have hlt : (k < n ∧ decide (k < n) = true) ∨ (¬ k < n ∧ decide (k < n) = false) := by
      by_cases h : k < n
      · exact Or.inl ⟨h, by simp; omega⟩
      · exact Or.inr ⟨h, by simp; omega⟩
    rcases hlt with ⟨hlt, hdec⟩ | ⟨hlt, hdec⟩
    all_goals
      go_upto_region 9 with fail
      go_cut [7] from 29 to 54 (fun c wx => c = .bool (furtherN m) ∧ Hid (Below w.heap.size w wx))
      case first =>
        have hcl := classes m
        rcases hcl with hc | hc | hc | hc | hc | hc | hc | hc
        · have hf : furtherN m = true := by simp [furtherN, letterN]; omega
          have t0 : decide (65 ≤ (m : Int)) = true := by simp; omega
          have t1 : decide ((m : Int) ≤ 90) = true := by simp; omega
          have t2 : decide (97 ≤ (m : Int)) = false := by simp; omega
          have t3 : decide ((m : Int) ≤ 122) = true := by simp; omega
          have t4 : decide (48 ≤ (m : Int)) = true := by simp; omega
          have t5 : decide ((m : Int) ≤ 57) = false := by simp; omega
          have t6 : ((m : Int) == 95) = false := by simp; omega
          have HF := Lib.hid hf
          clear hf hc
          go_wp2_with fail
          go_meet
          exact ⟨by rw [HF.out], B3.out⟩
        · have hf : furtherN m = true := by simp [furtherN, letterN]; omega
          have t0 : decide (65 ≤ (m : Int)) = true := by simp; omega
          have t1 : decide ((m : Int) ≤ 90) = false := by simp; omega
          have t2 : decide (97 ≤ (m : Int)) = true := by simp; omega
          have t3 : decide ((m : Int) ≤ 122) = true := by simp; omega
          have t4 : decide (48 ≤ (m : Int)) = true := by simp; omega
          have t5 : decide ((m : Int) ≤ 57) = false := by simp; omega
          have t6 : ((m : Int) == 95) = false := by simp; omega
          have HF := Lib.hid hf
          clear hf hc
          go_wp2_with fail
          go_meet
          exact ⟨by rw [HF.out], B3.out⟩
        · have hf : furtherN m = true := by simp [furtherN, letterN]; omega
          have t0 : decide (65 ≤ (m : Int)) = false := by simp; omega
          have t1 : decide ((m : Int) ≤ 90) = true := by simp; omega
          have t2 : decide (97 ≤ (m : Int)) = false := by simp; omega
          have t3 : decide ((m : Int) ≤ 122) = true := by simp; omega
          have t4 : decide (48 ≤ (m : Int)) = true := by simp; omega
          have t5 : decide ((m : Int) ≤ 57) = true := by simp; omega
          have t6 : ((m : Int) == 95) = false := by simp; omega
          have HF := Lib.hid hf
          clear hf hc
          go_wp2_with fail
          go_meet
          exact ⟨by rw [HF.out], B3.out⟩
        · have hf : furtherN m = true := by simp [furtherN, letterN]; omega
          have t0 : decide (65 ≤ (m : Int)) = true := by simp; omega
          have t1 : decide ((m : Int) ≤ 90) = false := by simp; omega
          have t2 : decide (97 ≤ (m : Int)) = false := by simp; omega
          have t3 : decide ((m : Int) ≤ 122) = true := by simp; omega
          have t4 : decide (48 ≤ (m : Int)) = true := by simp; omega
          have t5 : decide ((m : Int) ≤ 57) = false := by simp; omega
          have t6 : ((m : Int) == 95) = true := by simp; omega
          have HF := Lib.hid hf
          clear hf hc
          go_wp2_with fail
          go_meet
          exact ⟨by rw [HF.out], B3.out⟩
        · have hf : furtherN m = false := by simp [furtherN, letterN]; omega
          have t0 : decide (65 ≤ (m : Int)) = false := by simp; omega
          have t1 : decide ((m : Int) ≤ 90) = true := by simp; omega
          have t2 : decide (97 ≤ (m : Int)) = false := by simp; omega
          have t3 : decide ((m : Int) ≤ 122) = true := by simp; omega
          have t4 : decide (48 ≤ (m : Int)) = false := by simp; omega
          have t5 : decide ((m : Int) ≤ 57) = true := by simp; omega
          have t6 : ((m : Int) == 95) = false := by simp; omega
          have HF := Lib.hid hf
          clear hf hc
          go_wp2_with fail
          go_meet
          exact ⟨by rw [HF.out], B3.out⟩
        · have hf : furtherN m = false := by simp [furtherN, letterN]; omega
          have t0 : decide (65 ≤ (m : Int)) = false := by simp; omega
          have t1 : decide ((m : Int) ≤ 90) = true := by simp; omega
          have t2 : decide (97 ≤ (m : Int)) = false := by simp; omega
          have t3 : decide ((m : Int) ≤ 122) = true := by simp; omega
          have t4 : decide (48 ≤ (m : Int)) = true := by simp; omega
          have t5 : decide ((m : Int) ≤ 57) = false := by simp; omega
          have t6 : ((m : Int) == 95) = false := by simp; omega
          have HF := Lib.hid hf
          clear hf hc
          go_wp2_with fail
          go_meet
          exact ⟨by rw [HF.out], B3.out⟩
        · have hf : furtherN m = false := by simp [furtherN, letterN]; omega
          have t0 : decide (65 ≤ (m : Int)) = true := by simp; omega
          have t1 : decide ((m : Int) ≤ 90) = false := by simp; omega
          have t2 : decide (97 ≤ (m : Int)) = false := by simp; omega
          have t3 : decide ((m : Int) ≤ 122) = true := by simp; omega
          have t4 : decide (48 ≤ (m : Int)) = true := by simp; omega
          have t5 : decide ((m : Int) ≤ 57) = false := by simp; omega
          have t6 : ((m : Int) == 95) = false := by simp; omega
          have HF := Lib.hid hf
          clear hf hc
          go_wp2_with fail
          go_meet
          exact ⟨by rw [HF.out], B3.out⟩
        · have hf : furtherN m = false := by simp [furtherN, letterN]; omega
          have t0 : decide (65 ≤ (m : Int)) = true := by simp; omega
          have t1 : decide ((m : Int) ≤ 90) = false := by simp; omega
          have t2 : decide (97 ≤ (m : Int)) = true := by simp; omega
          have t3 : decide ((m : Int) ≤ 122) = false := by simp; omega
          have t4 : decide (48 ≤ (m : Int)) = true := by simp; omega
          have t5 : decide ((m : Int) ≤ 57) = false := by simp; omega
          have t6 : ((m : Int) == 95) = false := by simp; omega
          have HF := Lib.hid hf
          clear hf hc
          go_wp2_with fail
          go_meet
          exact ⟨by rw [HF.out], B3.out⟩
      case rest =>
        obtain ⟨rfl, BC⟩ := hcut
        clear B3
        have tokF : True := trivial
        have tokG : True := trivial
        have tokH : True := trivial
        have tokR : True := trivial
        have tokO : True := trivial
        obtain ⟨hk, ht1⟩ := HK.out
        have hk' : fitsN 3 (bs s) = false ∧ ((fitsN 2 (bs s) = true ∧ fitsN 1 (bs s) = true) ∨ (fitsN 2 (bs s) = false ∧ fitsN 1 (bs s) = true) ∨ (fitsN 2 (bs s) = false ∧ fitsN 1 (bs s) = false)) := by
          rcases hk with h | h | h
          · cases h.1
          · exact ⟨h.2.1, Or.inl h.2.2⟩
          · refine ⟨h.2.1, ?_⟩
            rcases hx : fitsN 1 (bs s) with _ | _
            · exact Or.inr (Or.inr ⟨h.2.2, rfl⟩)
            · exact Or.inr (Or.inl ⟨h.2.2, rfl⟩)
        obtain ⟨h3, hk'⟩ := hk'
        rw [h3] at F3
        clear hk h3
        rcases hp : furtherN m with _ | _
        all_goals rcases hk' with ⟨x2, x1⟩ | ⟨x2, x1⟩ | ⟨x2, x1⟩
        all_goals
          rw [x2] at F2
          rw [x1] at F1 ht1
          have ht1' := ht1.symm
          clear ht1 x1 x2
          go_wp2_with (first
            | (go_at_call 14; refine (O1.out _).mono ?_; rintro e w7 ⟨rfl, q7⟩; have B7 : Hid (Below w.heap.size w w7) := Lib.hid (BC.out.trans (q7.below _)); clear q7)
            | (go_at_call 16; have _t := tokF; refine (F4.out _ B7.out).mono ?_; rintro e w8 ⟨rfl, b8⟩; have B8 : Hid (Below w.heap.size w w8) := Lib.hid (B7.out.trans (b8.mono B7.out.size)); clear b8; clear tokF _t)
            | (go_at_call 16; have _t := tokG; refine (F2.out _ B8.out).mono ?_; rintro e w9 ⟨rfl, b9⟩; have B9 : Hid (Below w.heap.size w w9) := Lib.hid (B8.out.trans (b9.mono B8.out.size)); clear b9; clear tokG _t)
            | (go_at_call 16; have _t := tokH; refine (F3.out _ B9.out).mono ?_; rintro e w10 ⟨rfl, b10⟩; have B10 : Hid (Below w.heap.size w w10) := Lib.hid (B9.out.trans (b10.mono B9.out.size)); clear b10; clear tokH _t)
            | (go_at_call 16; refine (F1.out _ B10.out).mono ?_; rintro e w11 ⟨rfl, b11⟩; have B11 : Hid (Below w.heap.size w w11) := Lib.hid (B10.out.trans (b11.mono B10.out.size)); clear b11))
          go_ret
          exact ⟨rfl, B11.out⟩

theorem grow_walk (s : ByteArray) (m : Int) (hs : s.size ≤ 140737488351232) (h0 : 0 ≤ m) (h1 : m ≤ 255) (w : World) (hv : Vars w) :
    Calls Tryd.prog 7 #[.string s, .int .u8 m] w fun e w' => e = .returned (.bool true) ∧ Below w.heap.size w w' := by
  obtain ⟨k, rfl⟩ : ∃ k : Nat, m = (k : Int) := ⟨m.toNat, by omega⟩
  rcases hr : rightN (bs s) with _ | _
  · exact grow_no s k hs (by omega) w hv hr
  · exact grow_yes s k hs (by omega) w hv hr
end Go.Proofs.YtffhogadgjnkkaaDoor
