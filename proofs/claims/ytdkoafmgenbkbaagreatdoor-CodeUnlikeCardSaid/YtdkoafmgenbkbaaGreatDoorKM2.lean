/- - - - - - - - - -/
import Derived.Test.YtdkoafmgenbkbaaGreatDoorKM1
set_option maxRecDepth 100000
set_option maxHeartbeats 32000000
set_option linter.unusedSimpArgs false
set_option linter.unusedVariables false
namespace Go.Proofs.YtdkoafmgenbkbaaGreatDoor
open Go.RowKit
theorem rightN_of {l : List Nat} {c : Nat} (h : l[0]? = some c) : rightN l = (decide (l.length ≤ 32) && letterN c && l.all furtherN) := by
  cases l with
  | nil => simp at h
  | cons a t => simp at h; subst h; rfl
theorem letter_any (n : Nat) (w : World) : Calls Tryz.prog 57 #[.int .u8 (n : Int)] w fun e w' => e = .returned (.bool (letterN n)) ∧ Quiet w w' := by
  by_cases h1 : 65 ≤ n
  · by_cases h2 : n ≤ 90
    · have hv : letterN n = true := by simp [letterN]; omega
      rw [hv]; clear hv
      go_enter Tryz.func57, Tryz.ntmps57
      go_wp2_with fail
      go_ret
      exact ⟨rfl, Quiet.refl _⟩
    · have a2 : decide ((n : Int) ≤ 90) = false := by simp; omega
      by_cases h3 : 97 ≤ n
      · by_cases h4 : n ≤ 122
        · have hv : letterN n = true := by simp [letterN]; omega
          have a4 : decide ((n : Int) ≤ 122) = true := by simp; omega
          rw [hv]; clear hv
          go_enter Tryz.func57, Tryz.ntmps57
          go_wp2_with fail
          go_ret
          exact ⟨rfl, Quiet.refl _⟩
        · have hv : letterN n = false := by simp [letterN]; omega
          have a4 : decide ((n : Int) ≤ 122) = false := by simp; omega
          rw [hv]; clear hv
          go_enter Tryz.func57, Tryz.ntmps57
          go_wp2_with fail
          go_ret
          exact ⟨rfl, Quiet.refl _⟩
      · have hv : letterN n = false := by simp [letterN]; omega
        have a3 : decide (97 ≤ (n : Int)) = false := by simp; omega
        rw [hv]; clear hv
        go_enter Tryz.func57, Tryz.ntmps57
        go_wp2_with fail
        go_ret
        exact ⟨rfl, Quiet.refl _⟩
  · have hv : letterN n = false := by simp [letterN]; omega
    have a1 : decide (65 ≤ (n : Int)) = false := by simp; omega
    have a3 : decide (97 ≤ (n : Int)) = false := by simp; omega
    have h3 : ¬ 97 ≤ n := by omega
    rw [hv]; clear hv
    go_enter Tryz.func57, Tryz.ntmps57
    go_wp2_with fail
    go_ret
    exact ⟨rfl, Quiet.refl _⟩
theorem letter_of (n : Nat) (b : Bool) (hb : letterN n = b) (w : World) : Calls Tryz.prog 57 #[.int .u8 (n : Int)] w fun e w' => e = .returned (.bool b) ∧ Quiet w w' := hb ▸ letter_any n w
theorem all_take {l : List Nat} {k c : Nat} (h : l[k]? = some c) (p : Nat → Bool) (h1 : (l.take k).all p = true) (h2 : p c = true) : (l.take (k + 1)).all p = true := by
  have hk := (List.getElem?_eq_some_iff.1 h).1
  rw [List.take_succ_eq_append_getElem hk, (List.getElem?_eq_some_iff.1 h).2, List.all_append, h1]
  simp [h2]
theorem all_no {l : List Nat} {k c : Nat} (h : l[k]? = some c) (p : Nat → Bool) (h2 : p c = false) : l.all p = false := by
  rw [List.all_eq_false]
  exact ⟨c, List.mem_iff_getElem?.2 ⟨k, h⟩, by simp [h2]⟩
theorem right_any (s : ByteArray) (hs : s.size ≤ maxLen) (w : World) : Calls Tryz.prog 35 #[.string s] w fun e w' => e = .returned (.bool (rightN (bs s))) ∧ Quiet w w' := by
  unfold maxLen at hs
  obtain ⟨n, hn⟩ : ∃ n, s.size = n := ⟨_, rfl⟩
  have Hn := zH hn
  have hln : (bs s).length = n := by rw [bs_len, hn]
  rw [hn] at hs
  have hn' : (s.size : Int) = (n : Int) := by rw [hn]
  clear hn
  by_cases h0 : n = 0
  · have hv : rightN (bs s) = false := by
      have : bs s = [] := List.eq_nil_of_length_eq_zero (by omega)
      rw [this]; rfl
    have HV := zH hv
    subst h0
    clear hv hln
    go_enter Tryz.func35, Tryz.ntmps35
    go_wp2_with fail
    go_ret
    exact ⟨by rw [HV.out]; rfl, Quiet.refl _⟩
  have h0' : ((n : Int) == 0) = false := by simp; omega
  obtain ⟨c0, hc0, c0256⟩ := get_bs (s := s) (k := 0) (by rw [Hn.out]; omega)
  have hr := rightN_of hc0
  have j0 := fun W => index_txt W 9 Tryz.underlying9 hc0 .i64 0 rfl
  have J0 := zH j0
  have Hc0 := zH hc0
  clear j0 hc0
  by_cases h32 : 32 < n
  · have hv : rightN (bs s) = false := by rw [hr, hln]; simp; omega
    have HV := zH hv
    have j0 := J0.out
    clear hv hln hr
    go_enter Tryz.func35, Tryz.ntmps35
    go_wp2_with fail
    go_ret
    exact ⟨by rw [HV.out]; rfl, Quiet.refl _⟩
  have h32' : decide (32 < (n : Int)) = false := by simp; omega
  rw [hln, show decide (n ≤ 32) = true by simp; omega, Bool.true_and] at hr
  rcases hl0 : letterN c0 with _ | _
  · have hv : rightN (bs s) = false := by rw [hr, hl0]; rfl
    have HV := zH hv
    have L0 := zH (fun W => letter_of c0 false hl0 W)
    have j0 := J0.out
    clear hv hln hr hl0
    go_enter Tryz.func35, Tryz.ntmps35
    go_wp2_with (go_at_call 57; refine (L0.out _).mono ?_; rintro e w1 ⟨rfl, q1⟩)
    go_ret
    exact ⟨by rw [HV.out]; rfl, q1⟩
  rw [hl0, Bool.true_and] at hr
  have L0 := zH (fun W => letter_of c0 true hl0 W)
  have Hr := zH hr
  have Hln := zH hln
  have Hfur0 := zH (show furtherN c0 = true by simp [furtherN, hl0])
  have j0 := J0.out
  clear hr hln hl0
  go_enter Tryz.func35, Tryz.ntmps35
  go_wp2_with (go_at_call 57; refine (L0.out _).mono ?_; rintro e w1 ⟨rfl, q1⟩)
  go_loopw [21] (fun i wr => ∃ k : Nat, 0 ≤ k ∧ k ≤ n ∧ i = .int .i64 k ∧ Hid (((bs s).take k).all furtherN = true) ∧ Quiet w wr) (fun i _ => n - (intOf i).toNat)
  case atStart => exact ⟨0, by omega, by omega, rfl, by simp [Hid], q1⟩
  case round =>
    obtain ⟨k, hk1, hk, rfl, hin, hq⟩ := hrel
    clear j0 q1
    have b0 : (0 : Int) ≤ (k : Int) := Int.natCast_nonneg _
    by_cases hlt : k < n
    · obtain ⟨c, hc, c256⟩ := get_bs (s := s) (k := k) (by rw [Hn.out]; exact hlt)
      have i1 := fun W => index_txt W 9 Tryz.underlying9 hc .i64 _ rfl
      have hcase : (letterN c = true ∧ furtherN c = true) ∨ (letterN c = false ∧ furtherN c = true ∧ 48 ≤ c ∧ c ≤ 57) ∨ (letterN c = false ∧ furtherN c = true ∧ 57 < c ∧ c = 95) ∨ (letterN c = false ∧ furtherN c = false ∧ c < 48 ∧ c ≠ 95) ∨ (letterN c = false ∧ furtherN c = false ∧ 57 < c ∧ c ≠ 95) := by
        rcases h : letterN c with _ | _
        · have e : furtherN c = decide ((48 ≤ c ∧ c ≤ 57) ∨ c = 95) := by simp [furtherN, h]
          rw [e]
          by_cases h1 : c < 48
          · right; right; right; left; refine ⟨rfl, ?_, h1, by omega⟩; simp; omega
          · by_cases h2 : c ≤ 57
            · right; left; refine ⟨rfl, ?_, by omega, h2⟩; simp; omega
            · by_cases h3 : c = 95
              · right; right; left; refine ⟨rfl, ?_, by omega, h3⟩; simp; omega
              · right; right; right; right; refine ⟨rfl, ?_, by omega, h3⟩; simp; omega
        · left; exact ⟨rfl, by simp [furtherN, h]⟩
      rcases hcase with ⟨hl, hf⟩ | ⟨hl, hf, x1, x2⟩ | ⟨hl, hf, x1, x2⟩ | ⟨hl, hf, x1, x2⟩ | ⟨hl, hf, x1, x2⟩
      · have L1 := zH (fun W => letter_of c true hl W)
        have HN := zH (all_take hc furtherN hin.out hf)
        clear hc hf hl
        go_wp2_with (go_at_call 57; refine (L1.out _).mono ?_; rintro e w2 ⟨rfl, q2⟩)
        go_roundw
        case rel => exact ⟨k + 1, by omega, by omega, by go_num, HN.out, hq.trans q2⟩
        case measure => simp [intOf]; omega
      · have L1 := zH (fun W => letter_of c false hl W)
        have y1 : decide ((c : Int) < 48) = false := by simp; omega
        have y2 : decide (57 < (c : Int)) = false := by simp; omega
        have HN := zH (all_take hc furtherN hin.out hf)
        clear hc hf hl
        go_wp2_with (go_at_call 57; refine (L1.out _).mono ?_; rintro e w2 ⟨rfl, q2⟩)
        go_roundw
        case rel => exact ⟨k + 1, by omega, by omega, by go_num, HN.out, hq.trans q2⟩
        case measure => simp [intOf]; omega
      · have L1 := zH (fun W => letter_of c false hl W)
        have y1 : decide ((c : Int) < 48) = false := by simp; omega
        have y3 : ((c : Int) != 95) = false := by simp; omega
        have HN := zH (all_take hc furtherN hin.out hf)
        clear hc hf hl x2
        go_wp2_with (go_at_call 57; refine (L1.out _).mono ?_; rintro e w2 ⟨rfl, q2⟩)
        go_roundw
        case rel => exact ⟨k + 1, by omega, by omega, by go_num, HN.out, hq.trans q2⟩
        case measure => simp [intOf]; omega
      · have L1 := zH (fun W => letter_of c false hl W)
        have y3 : ((c : Int) != 95) = true := by simp; omega
        have HV : Hid (rightN (bs s) = false) := zH (by rw [Hr.out]; exact all_no hc furtherN hf)
        clear hc hf hl x2
        go_wp2_with (go_at_call 57; refine (L1.out _).mono ?_; rintro e w2 ⟨rfl, q2⟩)
        go_ret
        exact ⟨by rw [HV.out]; rfl, hq.trans q2⟩
      · have L1 := zH (fun W => letter_of c false hl W)
        have y1 : decide ((c : Int) < 48) = false := by simp; omega
        have y3 : ((c : Int) != 95) = true := by simp; omega
        have HV : Hid (rightN (bs s) = false) := zH (by rw [Hr.out]; exact all_no hc furtherN hf)
        clear hc hf hl x2
        go_wp2_with (go_at_call 57; refine (L1.out _).mono ?_; rintro e w2 ⟨rfl, q2⟩)
        go_ret
        exact ⟨by rw [HV.out]; rfl, hq.trans q2⟩
    · have hdec : decide (k < n) = false := by simp; omega
      have HV : Hid (rightN (bs s) = true) := zH (by
        have := hin.out
        rw [List.take_of_length_le (by rw [Hln.out]; omega)] at this
        rw [Hr.out]; exact this)
      go_wp2_with fail
      go_ret
      exact ⟨by rw [HV.out]; rfl, hq⟩
end Go.Proofs.YtdkoafmgenbkbaaGreatDoor
namespace Go.Proofs.YtdkoafmgenbkbaaGreatDoor
open Go.RowKit
abbrev PlS := PlR 69 91
abbrev LpR (W : World) := RowR W 91 2 LoopIs
def LedTo (W : World) (g : Nat) (r : Option (List Pl)) (e : Ending) (w' : World) : Prop :=
  e = .returned (.bool r.isSome) ∧ W.grownBy w' (some g) ∧ ∀ l', r = some l' → PlS w' g l'
theorem lead_any {k g n c : Nat} {lv : Value} {l : List Pl} (W : World) (tw : Nat) (h : Int) (v : Value) (ls : List (Int × Int))
   (HK : Blk W k 65 #[lv, .slice (some ⟨g, 0, none⟩) n c]) (HP : PlS W g l) (hn : n = l.length) (hto : tw < l.length) (hmax : n ≤ 1025) (hv : LpR W v ls) :
    Calls Tryz.prog 21 #[.pointer (some ⟨k, 0, none⟩), .int .i64 tw, .int .i64 h, v] W (LedTo W g (leadN l tw h ls)) := by
  obtain ⟨p, hp⟩ := get_some rfl hto
  obtain ⟨pv, e0, e1, e2, er⟩ := HP.at_ hp
  obtain ⟨pa, pc, rfl⟩ := er.form
  obtain ⟨va, vc, rfl⟩ := hv.form
  have HE := zH (fun W' (hW : Below W.heap.size W W') => equal_Loop W' W er.read hv.read hW)
  have fz := HP.froz
  have f0 := fz (tw * 3)
  have f1 := fz (tw * 3 + 1)
  have f2 := fz (tw * 3 + 2)
  have hgl := HP.lt
  have hkl := HK.lt
  have ck1 : W.cell? ⟨k, 1, none⟩ = some (.slice (some ⟨g, 0, none⟩) n c) := HK.cell (i := 1) rfl
  have hto1 : (tw : Int) < (n : Int) := by omega
  have hto0 : (0 : Int) ≤ (tw : Int) := Int.natCast_nonneg _
  have HP' := zH HP
  have Hn := zH hn
  have Hp := zH hp
  have Hto := zH hto
  have Hv := zH hv
  have HLN : Hid (leadN l tw h ls = if p.known = true then (if p.height = h ∧ p.loops = ls then some l else none) else some (l.set tw ⟨true, h, ls⟩)) := zH (by unfold leadN; rw [hp])
  clear HK HP hn hto hp er hv fz
  obtain ⟨pk, hpk⟩ : ∃ b, p.known = b := ⟨_, rfl⟩
  rw [hpk] at e0
  have Hpk := zH hpk
  clear hpk
  cases pk with
  | true =>
    by_cases hh : p.height = h
    · have hh1 : (p.height == h) = true := by simpa using hh
      have Hh := zH hh
      go_enter Tryz.func21, Tryz.ntmps21
      go_wp2_with (go_at_call 34; refine (HE.out _ zB).mono ?_; rintro e w1 ⟨rfl, hq⟩; have Hq := zH hq; clear hq)
      go_ret
      refine ⟨?_, grown_below (Hq.out.below _) _, fun l' e => ?_⟩
      · rw [HLN.out, Hpk.out, if_pos rfl]
        by_cases hl : p.loops = ls
        · rw [if_pos ⟨Hh.out, hl⟩]; simp [hl]
        · rw [if_neg (fun a => hl a.2)]; simp [hl]
      · rw [HLN.out, Hpk.out, if_pos rfl] at e
        split at e
        · injection e with e; subst e; exact HP'.out.below (Hq.out.below _)
        · cases e
    · have hh1 : (p.height == h) = false := by simpa using hh
      have Hh := zH hh
      go_enter Tryz.func21, Tryz.ntmps21
      go_wp2_with fail
      go_ret
      have hnone : leadN l tw h ls = none := by rw [HLN.out, Hpk.out, if_pos rfl, if_neg (fun a => Hh.out a.1)]
      refine ⟨by rw [hnone]; rfl, grown_below zB _, fun l' e => ?_⟩
      rw [hnone] at e; cases e
  | false =>
    go_enter Tryz.func21, Tryz.ntmps21
    go_wp2_with fail
    go_ret
    have hs : leadN l tw h ls = some (l.set tw ⟨true, h, ls⟩) := by rw [HLN.out, Hpk.out]; simp
    refine ⟨by rw [hs]; rfl, grown_trans (grown_trans (grown_set _ _ _ _) (grown_set _ _ _ _)) (grown_set _ _ _ _), fun l' e => ?_⟩
    rw [hs] at e
    injection e with e
    subst e
    exact HP'.out.set_ Hto.out h Hv.out
theorem hasN_le (op : Int) : hasN op = 0 ∨ hasN op = 1 ∨ hasN op = 2 ∨ hasN op = 3 ∨ hasN op = 4 ∨ hasN op = 5 := by
  unfold hasN
  repeat' split
  all_goals simp
theorem plain_any (d : Ins) (hd : d.ok) (w : World) : Calls Tryz.prog 22 #[.agg #[.int .i64 d.op, .int .i64 d.arg, .int .i64 d.int, .string d.text]] w fun e w' => e = .returned (.bool (plainN d)) ∧ Below w.heap.size w w' := by
  obtain ⟨op, arg, int, text⟩ := d
  obtain ⟨hd0, hd1, hd2, hd3⟩ := hd
  simp only at hd0 hd1 hd2 hd3 ⊢
  have Hd3 := zH hd3
  clear hd0 hd1 hd2 hd3
  by_cases hr : 1 ≤ op ∧ op ≤ 40
  · obtain ⟨h1, h2⟩ := hr
    have ho1 : ¬ op < 1 := by omega
    have ho2 : ¬ 40 < op := by omega
    have HW := zH (fun W => what_any op h1 h2 W)
    have HR := zH (fun W => right_any text Hd3.out W)
    have hpl : Hid (∀ b, plainN ⟨op, arg, int, text⟩ = b ↔ (decide ((hasN op = 1 ∨ hasN op = 5 ∨ arg = 0) ∧ (hasN op = 2 ∨ int = 0) ∧ (hasN op = 3 ∨ hasN op = 4 ∨ text = ⟨#[]⟩) ∧ 0 ≤ arg) && (if hasN op = 3 then decide (text.size ≤ 4096) else if hasN op = 4 then rightN (bs text) else decide (op ≠ 1 ∨ 0 < arg))) = b) := zH (fun b => by unfold plainN; simp only [h1, h2, and_self, decide_true, Bool.true_and])
    clear h1 h2
    rcases hasN_le op with hm | hm | hm | hm | hm | hm
    all_goals rw [hm] at HW hpl
    all_goals have Hm := zH hm
    all_goals clear hm
    · by_cases ca : arg = 0
      · subst ca
        by_cases ci : int = 0
        · subst ci
          by_cases ct : text = ⟨#[]⟩
          · subst ct
            have hop : op ≠ 1 := by intro e; subst e; have := Hm.out; revert this; decide
            have hop1 : (op != 1) = true := by simpa using hop
            have hop2 : (op == 1) = false := by simpa using hop
            go_enter Tryz.func22, Tryz.ntmps22
            go_wp2_with (first
              | (go_at_call 31; refine (HW.out _).mono ?_; rintro e w1 ⟨rfl, hq⟩; obtain ⟨nq, rfl⟩ := hq; skip)
              | (go_at_call 35; refine (HR.out _).mono ?_; rintro e w2 ⟨rfl, hq⟩; obtain ⟨nr, rfl⟩ := hq)
              | fail)
            go_ret
            refine ⟨?_, ?_⟩
            · rw [(hpl.out _).2 rfl]
              simp [hop] <;> omega
            · repeat' first | exact zB.alloc zL _ | refine below_drewN ?_ _
          · have ct1 : ¬ text.toList = [] := fun e => ct ((toList_inj _ _).1 (e.trans (by rw [ByteArray.toList_eq])))
            have ct2 : (!text.toList.isEmpty) = true := by simpa using ct1
            have ct3 : (text.toList == []) = false := by simpa using ct1
            have ct4 : (text.toList != []) = true := by simpa using ct1
            clear ct1
            go_enter Tryz.func22, Tryz.ntmps22
            go_wp2_with (first
              | (go_at_call 31; refine (HW.out _).mono ?_; rintro e w1 ⟨rfl, hq⟩; obtain ⟨nq, rfl⟩ := hq; skip)
              | (go_at_call 35; refine (HR.out _).mono ?_; rintro e w2 ⟨rfl, hq⟩; obtain ⟨nr, rfl⟩ := hq)
              | fail)
            go_ret
            refine ⟨?_, ?_⟩
            · rw [(hpl.out _).2 rfl]
              simp [ct]
            · repeat' first | exact zB.alloc zL _ | refine below_drewN ?_ _
        · have ci1 : (int != 0) = true := by simpa using ci
          go_enter Tryz.func22, Tryz.ntmps22
          go_wp2_with (first
            | (go_at_call 31; refine (HW.out _).mono ?_; rintro e w1 ⟨rfl, hq⟩; obtain ⟨nq, rfl⟩ := hq; skip)
            | (go_at_call 35; refine (HR.out _).mono ?_; rintro e w2 ⟨rfl, hq⟩; obtain ⟨nr, rfl⟩ := hq)
            | fail)
          go_ret
          refine ⟨?_, ?_⟩
          · rw [(hpl.out _).2 rfl]
            simp [ci]
          · repeat' first | exact zB.alloc zL _ | refine below_drewN ?_ _
      · have ca1 : (arg != 0) = true := by simpa using ca
        go_enter Tryz.func22, Tryz.ntmps22
        go_wp2_with (first
          | (go_at_call 31; refine (HW.out _).mono ?_; rintro e w1 ⟨rfl, hq⟩; obtain ⟨nq, rfl⟩ := hq; skip)
          | (go_at_call 35; refine (HR.out _).mono ?_; rintro e w2 ⟨rfl, hq⟩; obtain ⟨nr, rfl⟩ := hq)
          | fail)
        go_ret
        refine ⟨?_, ?_⟩
        · rw [(hpl.out _).2 rfl]
          simp [ca]
        · repeat' first | exact zB.alloc zL _ | refine below_drewN ?_ _
    · by_cases ci : int = 0
      · subst ci
        by_cases ct : text = ⟨#[]⟩
        · subst ct
          by_cases cn : arg < 0
          · go_enter Tryz.func22, Tryz.ntmps22
            go_wp2_with (first
              | (go_at_call 31; refine (HW.out _).mono ?_; rintro e w1 ⟨rfl, hq⟩; obtain ⟨nq, rfl⟩ := hq; skip)
              | (go_at_call 35; refine (HR.out _).mono ?_; rintro e w2 ⟨rfl, hq⟩; obtain ⟨nr, rfl⟩ := hq)
              | fail)
            go_ret
            refine ⟨?_, ?_⟩
            · rw [(hpl.out _).2 rfl]
              simp <;> omega
            · repeat' first | exact zB.alloc zL _ | refine below_drewN ?_ _
          · by_cases hop : op = 1
            · subst hop
              go_enter Tryz.func22, Tryz.ntmps22
              go_wp2_with (first
                | (go_at_call 31; refine (HW.out _).mono ?_; rintro e w1 ⟨rfl, hq⟩; obtain ⟨nq, rfl⟩ := hq; skip)
                | (go_at_call 35; refine (HR.out _).mono ?_; rintro e w2 ⟨rfl, hq⟩; obtain ⟨nr, rfl⟩ := hq)
                | fail)
              go_ret
              refine ⟨?_, ?_⟩
              · rw [(hpl.out _).2 rfl]
                simp <;> omega
              · repeat' first | exact zB.alloc zL _ | refine below_drewN ?_ _
            · have hop1 : (op != 1) = true := by simpa using hop
              have hop2 : (op == 1) = false := by simpa using hop
              go_enter Tryz.func22, Tryz.ntmps22
              go_wp2_with (first
                | (go_at_call 31; refine (HW.out _).mono ?_; rintro e w1 ⟨rfl, hq⟩; obtain ⟨nq, rfl⟩ := hq; skip)
                | (go_at_call 35; refine (HR.out _).mono ?_; rintro e w2 ⟨rfl, hq⟩; obtain ⟨nr, rfl⟩ := hq)
                | fail)
              go_ret
              refine ⟨?_, ?_⟩
              · rw [(hpl.out _).2 rfl]
                simp [hop] <;> omega
              · repeat' first | exact zB.alloc zL _ | refine below_drewN ?_ _
        · have ct1 : ¬ text.toList = [] := fun e => ct ((toList_inj _ _).1 (e.trans (by rw [ByteArray.toList_eq])))
          have ct2 : (!text.toList.isEmpty) = true := by simpa using ct1
          have ct3 : (text.toList == []) = false := by simpa using ct1
          have ct4 : (text.toList != []) = true := by simpa using ct1
          clear ct1
          go_enter Tryz.func22, Tryz.ntmps22
          go_wp2_with (first
            | (go_at_call 31; refine (HW.out _).mono ?_; rintro e w1 ⟨rfl, hq⟩; obtain ⟨nq, rfl⟩ := hq; skip)
            | (go_at_call 35; refine (HR.out _).mono ?_; rintro e w2 ⟨rfl, hq⟩; obtain ⟨nr, rfl⟩ := hq)
            | fail)
          go_ret
          refine ⟨?_, ?_⟩
          · rw [(hpl.out _).2 rfl]
            simp [ct]
          · repeat' first | exact zB.alloc zL _ | refine below_drewN ?_ _
      · have ci1 : (int != 0) = true := by simpa using ci
        go_enter Tryz.func22, Tryz.ntmps22
        go_wp2_with (first
          | (go_at_call 31; refine (HW.out _).mono ?_; rintro e w1 ⟨rfl, hq⟩; obtain ⟨nq, rfl⟩ := hq; skip)
          | (go_at_call 35; refine (HR.out _).mono ?_; rintro e w2 ⟨rfl, hq⟩; obtain ⟨nr, rfl⟩ := hq)
          | fail)
        go_ret
        refine ⟨?_, ?_⟩
        · rw [(hpl.out _).2 rfl]
          simp [ci]
        · repeat' first | exact zB.alloc zL _ | refine below_drewN ?_ _
    · by_cases ca : arg = 0
      · subst ca
        by_cases ct : text = ⟨#[]⟩
        · subst ct
          have hop : op ≠ 1 := by intro e; subst e; have := Hm.out; revert this; decide
          have hop1 : (op != 1) = true := by simpa using hop
          have hop2 : (op == 1) = false := by simpa using hop
          go_enter Tryz.func22, Tryz.ntmps22
          go_wp2_with (first
            | (go_at_call 31; refine (HW.out _).mono ?_; rintro e w1 ⟨rfl, hq⟩; obtain ⟨nq, rfl⟩ := hq; skip)
            | (go_at_call 35; refine (HR.out _).mono ?_; rintro e w2 ⟨rfl, hq⟩; obtain ⟨nr, rfl⟩ := hq)
            | fail)
          go_ret
          refine ⟨?_, ?_⟩
          · rw [(hpl.out _).2 rfl]
            simp [hop] <;> omega
          · repeat' first | exact zB.alloc zL _ | refine below_drewN ?_ _
        · have ct1 : ¬ text.toList = [] := fun e => ct ((toList_inj _ _).1 (e.trans (by rw [ByteArray.toList_eq])))
          have ct2 : (!text.toList.isEmpty) = true := by simpa using ct1
          have ct3 : (text.toList == []) = false := by simpa using ct1
          have ct4 : (text.toList != []) = true := by simpa using ct1
          clear ct1
          go_enter Tryz.func22, Tryz.ntmps22
          go_wp2_with (first
            | (go_at_call 31; refine (HW.out _).mono ?_; rintro e w1 ⟨rfl, hq⟩; obtain ⟨nq, rfl⟩ := hq; skip)
            | (go_at_call 35; refine (HR.out _).mono ?_; rintro e w2 ⟨rfl, hq⟩; obtain ⟨nr, rfl⟩ := hq)
            | fail)
          go_ret
          refine ⟨?_, ?_⟩
          · rw [(hpl.out _).2 rfl]
            simp [ct]
          · repeat' first | exact zB.alloc zL _ | refine below_drewN ?_ _
      · have ca1 : (arg != 0) = true := by simpa using ca
        go_enter Tryz.func22, Tryz.ntmps22
        go_wp2_with (first
          | (go_at_call 31; refine (HW.out _).mono ?_; rintro e w1 ⟨rfl, hq⟩; obtain ⟨nq, rfl⟩ := hq; skip)
          | (go_at_call 35; refine (HR.out _).mono ?_; rintro e w2 ⟨rfl, hq⟩; obtain ⟨nr, rfl⟩ := hq)
          | fail)
        go_ret
        refine ⟨?_, ?_⟩
        · rw [(hpl.out _).2 rfl]
          simp [ca]
        · repeat' first | exact zB.alloc zL _ | refine below_drewN ?_ _
    · by_cases ca : arg = 0
      · subst ca
        by_cases ci : int = 0
        · subst ci
          go_enter Tryz.func22, Tryz.ntmps22
          go_wp2_with (first
            | (go_at_call 31; refine (HW.out _).mono ?_; rintro e w1 ⟨rfl, hq⟩; obtain ⟨nq, rfl⟩ := hq; skip)
            | (go_at_call 35; refine (HR.out _).mono ?_; rintro e w2 ⟨rfl, hq⟩; obtain ⟨nr, rfl⟩ := hq)
            | fail)
          go_ret
          refine ⟨?_, ?_⟩
          · rw [(hpl.out _).2 rfl]
            simp <;> omega
          · repeat' first | exact zB.alloc zL _ | refine below_drewN ?_ _
        · have ci1 : (int != 0) = true := by simpa using ci
          go_enter Tryz.func22, Tryz.ntmps22
          go_wp2_with (first
            | (go_at_call 31; refine (HW.out _).mono ?_; rintro e w1 ⟨rfl, hq⟩; obtain ⟨nq, rfl⟩ := hq; skip)
            | (go_at_call 35; refine (HR.out _).mono ?_; rintro e w2 ⟨rfl, hq⟩; obtain ⟨nr, rfl⟩ := hq)
            | fail)
          go_ret
          refine ⟨?_, ?_⟩
          · rw [(hpl.out _).2 rfl]
            simp [ci]
          · repeat' first | exact zB.alloc zL _ | refine below_drewN ?_ _
      · have ca1 : (arg != 0) = true := by simpa using ca
        go_enter Tryz.func22, Tryz.ntmps22
        go_wp2_with (first
          | (go_at_call 31; refine (HW.out _).mono ?_; rintro e w1 ⟨rfl, hq⟩; obtain ⟨nq, rfl⟩ := hq; skip)
          | (go_at_call 35; refine (HR.out _).mono ?_; rintro e w2 ⟨rfl, hq⟩; obtain ⟨nr, rfl⟩ := hq)
          | fail)
        go_ret
        refine ⟨?_, ?_⟩
        · rw [(hpl.out _).2 rfl]
          simp [ca]
        · repeat' first | exact zB.alloc zL _ | refine below_drewN ?_ _
    · by_cases ca : arg = 0
      · subst ca
        by_cases ci : int = 0
        · subst ci
          go_enter Tryz.func22, Tryz.ntmps22
          go_wp2_with (first
            | (go_at_call 31; refine (HW.out _).mono ?_; rintro e w1 ⟨rfl, hq⟩; obtain ⟨nq, rfl⟩ := hq; skip)
            | (go_at_call 35; refine (HR.out _).mono ?_; rintro e w2 ⟨rfl, hq⟩; obtain ⟨nr, rfl⟩ := hq)
            | fail)
          go_ret
          refine ⟨?_, ?_⟩
          · rw [(hpl.out _).2 rfl]
            simp <;> omega
          · repeat' first | exact zB.alloc zL _ | refine below_drewN ?_ _
        · have ci1 : (int != 0) = true := by simpa using ci
          go_enter Tryz.func22, Tryz.ntmps22
          go_wp2_with (first
            | (go_at_call 31; refine (HW.out _).mono ?_; rintro e w1 ⟨rfl, hq⟩; obtain ⟨nq, rfl⟩ := hq; skip)
            | (go_at_call 35; refine (HR.out _).mono ?_; rintro e w2 ⟨rfl, hq⟩; obtain ⟨nr, rfl⟩ := hq)
            | fail)
          go_ret
          refine ⟨?_, ?_⟩
          · rw [(hpl.out _).2 rfl]
            simp [ci]
          · repeat' first | exact zB.alloc zL _ | refine below_drewN ?_ _
      · have ca1 : (arg != 0) = true := by simpa using ca
        go_enter Tryz.func22, Tryz.ntmps22
        go_wp2_with (first
          | (go_at_call 31; refine (HW.out _).mono ?_; rintro e w1 ⟨rfl, hq⟩; obtain ⟨nq, rfl⟩ := hq; skip)
          | (go_at_call 35; refine (HR.out _).mono ?_; rintro e w2 ⟨rfl, hq⟩; obtain ⟨nr, rfl⟩ := hq)
          | fail)
        go_ret
        refine ⟨?_, ?_⟩
        · rw [(hpl.out _).2 rfl]
          simp [ca]
        · repeat' first | exact zB.alloc zL _ | refine below_drewN ?_ _
    · by_cases ci : int = 0
      · subst ci
        by_cases ct : text = ⟨#[]⟩
        · subst ct
          by_cases cn : arg < 0
          · go_enter Tryz.func22, Tryz.ntmps22
            go_wp2_with (first
              | (go_at_call 31; refine (HW.out _).mono ?_; rintro e w1 ⟨rfl, hq⟩; obtain ⟨nq, rfl⟩ := hq; skip)
              | (go_at_call 35; refine (HR.out _).mono ?_; rintro e w2 ⟨rfl, hq⟩; obtain ⟨nr, rfl⟩ := hq)
              | fail)
            go_ret
            refine ⟨?_, ?_⟩
            · rw [(hpl.out _).2 rfl]
              simp <;> omega
            · repeat' first | exact zB.alloc zL _ | refine below_drewN ?_ _
          · have hop : op ≠ 1 := by intro e; subst e; have := Hm.out; revert this; decide
            have hop1 : (op != 1) = true := by simpa using hop
            have hop2 : (op == 1) = false := by simpa using hop
            go_enter Tryz.func22, Tryz.ntmps22
            go_wp2_with (first
              | (go_at_call 31; refine (HW.out _).mono ?_; rintro e w1 ⟨rfl, hq⟩; obtain ⟨nq, rfl⟩ := hq; skip)
              | (go_at_call 35; refine (HR.out _).mono ?_; rintro e w2 ⟨rfl, hq⟩; obtain ⟨nr, rfl⟩ := hq)
              | fail)
            go_ret
            refine ⟨?_, ?_⟩
            · rw [(hpl.out _).2 rfl]
              simp [hop] <;> omega
            · repeat' first | exact zB.alloc zL _ | refine below_drewN ?_ _
        · have ct1 : ¬ text.toList = [] := fun e => ct ((toList_inj _ _).1 (e.trans (by rw [ByteArray.toList_eq])))
          have ct2 : (!text.toList.isEmpty) = true := by simpa using ct1
          have ct3 : (text.toList == []) = false := by simpa using ct1
          have ct4 : (text.toList != []) = true := by simpa using ct1
          clear ct1
          go_enter Tryz.func22, Tryz.ntmps22
          go_wp2_with (first
            | (go_at_call 31; refine (HW.out _).mono ?_; rintro e w1 ⟨rfl, hq⟩; obtain ⟨nq, rfl⟩ := hq; skip)
            | (go_at_call 35; refine (HR.out _).mono ?_; rintro e w2 ⟨rfl, hq⟩; obtain ⟨nr, rfl⟩ := hq)
            | fail)
          go_ret
          refine ⟨?_, ?_⟩
          · rw [(hpl.out _).2 rfl]
            simp [ct]
          · repeat' first | exact zB.alloc zL _ | refine below_drewN ?_ _
      · have ci1 : (int != 0) = true := by simpa using ci
        go_enter Tryz.func22, Tryz.ntmps22
        go_wp2_with (first
          | (go_at_call 31; refine (HW.out _).mono ?_; rintro e w1 ⟨rfl, hq⟩; obtain ⟨nq, rfl⟩ := hq; skip)
          | (go_at_call 35; refine (HR.out _).mono ?_; rintro e w2 ⟨rfl, hq⟩; obtain ⟨nr, rfl⟩ := hq)
          | fail)
        go_ret
        refine ⟨?_, ?_⟩
        · rw [(hpl.out _).2 rfl]
          simp [ci]
        · repeat' first | exact zB.alloc zL _ | refine below_drewN ?_ _
  · have hpl : plainN ⟨op, arg, int, text⟩ = false := by unfold plainN; simp only [hr, decide_false, Bool.false_and]
    have Hpl := zH hpl
    clear hpl
    by_cases h1 : op < 1
    · have h1d : decide (op < 1) = true := by simpa using h1
      go_enter Tryz.func22, Tryz.ntmps22
      go_wp2_with (first
        | (go_at_call 31; refine (HW.out _).mono ?_; rintro e w1 ⟨rfl, hq⟩; obtain ⟨nq, rfl⟩ := hq; skip)
        | (go_at_call 35; refine (HR.out _).mono ?_; rintro e w2 ⟨rfl, hq⟩; obtain ⟨nr, rfl⟩ := hq)
        | fail)
      go_ret
      exact ⟨by rw [Hpl.out]; rfl, zB.alloc zL _⟩
    · have h2 : 40 < op := by omega
      have h1d : decide (op < 1) = false := by simpa using h1
      have h2d : decide (40 < op) = true := by simpa using h2
      go_enter Tryz.func22, Tryz.ntmps22
      go_wp2_with (first
        | (go_at_call 31; refine (HW.out _).mono ?_; rintro e w1 ⟨rfl, hq⟩; obtain ⟨nq, rfl⟩ := hq; skip)
        | (go_at_call 35; refine (HR.out _).mono ?_; rintro e w2 ⟨rfl, hq⟩; obtain ⟨nr, rfl⟩ := hq)
        | fail)
      go_ret
      exact ⟨by rw [Hpl.out]; rfl, zB.alloc zL _⟩
end Go.Proofs.YtdkoafmgenbkbaaGreatDoor
namespace Go.Proofs.YtdkoafmgenbkbaaGreatDoor
open Go.RowKit
theorem made_at {z : Array Value} {n i : Nat} (r : Nat) (h : i < n) (hr : i % z.size = r) : (madeCells z n)[i]? = some (z[r]!) := by subst hr; simp [madeCells, h]
theorem PlR.made {tp tl : TypeId} {W : World} {g n : Nat} (hd : tp ≠ tl) (h : Blk W g tp (madeCells #[.bool false, .int .i64 0, .slice none 0 0] (n * 3))) : PlR tp tl W g (List.replicate n Pl.none) := by
  refine ⟨hd, _, h, by simp [size_madeCells], fun i p hp => ?_⟩
  have hi : i < n := by have := (List.getElem?_eq_some_iff.1 hp).1; simpa using this
  have hp' := List.mem_of_getElem? hp
  rw [List.mem_replicate] at hp'
  obtain ⟨_, rfl⟩ := hp'
  refine ⟨.slice none 0 0, ?_, ?_, ?_, RowR.nil_⟩
  · exact made_at 0 (by omega) (by simp; try omega)
  · exact made_at 1 (by omega) (by simp; try omega)
  · exact made_at 2 (by omega) (by simp; try omega)
theorem lead_start (n : Nat) : leadN (List.replicate (n + 1) Pl.none) 0 0 [] = some (startN n) := by
  unfold leadN startN
  rw [List.replicate_succ]
  rfl
theorem go_step {c : List Ins} {k n : Nat} {l : List Pl} (h : k < n) : goN c (n - k) k l = match stepN c l k with | some l' => goN c (n - (k + 1)) (k + 1) l' | .none => (k, 110) := by
  obtain ⟨m, hm⟩ : ∃ m, n - k = m + 1 := ⟨n - k - 1, by omega⟩
  rw [hm, show n - (k + 1) = m by omega]
  rfl
theorem step_of {c : List Ins} {l : List Pl} {k : Nat} {p : Pl} {x : Ins} (hp : l[k]? = some p) (hx : c[k]? = some x) : stepN c l k = if p.known = true ∧ plainN x = true then insN c l k p x else .none := by
  unfold stepN
  rw [hp, hx]
theorem plain_ops {x : Ins} (h : plainN x = true) : 1 ≤ x.op ∧ x.op ≤ 40 ∧ 0 ≤ x.arg := by
  unfold plainN at h
  simp only [Bool.and_eq_true, decide_eq_true_eq] at h
  exact ⟨h.1.1.1, h.1.1.2, h.1.2.2.2.2⟩
end Go.Proofs.YtdkoafmgenbkbaaGreatDoor
namespace Go.Proofs.YtdkoafmgenbkbaaGreatDoor
open Go.RowKit
def wordsV : Array Value := (wordsC.map Value.string).toArray
def WordsIs (w : World) : Prop := w.var? Tryz.prog "topiary/code.words" = some wordsV
theorem WordsIs.below {w w' : World} (h : WordsIs w) (hb : Below w.heap.size w w') : WordsIs w' := var_keep h hb
theorem wordsV_at (op : Int) (h1 : 1 ≤ op) (h2 : op ≤ 40) : wordsV[op.toNat]? = some (.string (wordC op)) := by
  rcases (by omega : op = 1 ∨ op = 2 ∨ op = 3 ∨ op = 4 ∨ op = 5 ∨ op = 6 ∨ op = 7 ∨ op = 8 ∨ op = 9 ∨ op = 10 ∨ op = 11 ∨ op = 12 ∨ op = 13 ∨ op = 14 ∨ op = 15 ∨ op = 16 ∨ op = 17 ∨ op = 18 ∨ op = 19 ∨ op = 20 ∨ op = 21 ∨ op = 22 ∨ op = 23 ∨ op = 24 ∨ op = 25 ∨ op = 26 ∨ op = 27 ∨ op = 28 ∨ op = 29 ∨ op = 30 ∨ op = 31 ∨ op = 32 ∨ op = 33 ∨ op = 34 ∨ op = 35 ∨ op = 36 ∨ op = 37 ∨ op = 38 ∨ op = 39 ∨ op = 40) with rfl | rfl | rfl | rfl | rfl | rfl | rfl | rfl | rfl | rfl | rfl | rfl | rfl | rfl | rfl | rfl | rfl | rfl | rfl | rfl | rfl | rfl | rfl | rfl | rfl | rfl | rfl | rfl | rfl | rfl | rfl | rfl | rfl | rfl | rfl | rfl | rfl | rfl | rfl | rfl <;> rfl
theorem words_block {w : World} (h : WordsIs w) : ∃ t fr, w.heap[0]? = some (.cells wordsV t fr) := by
  unfold WordsIs World.var? at h
  rw [show Tryz.prog.globalNamed "topiary/code.words" = some 0 by kernel_rfl] at h
  simp only [Option.bind_some] at h
  cases hh : w.heap[0]? with
  | none => rw [hh] at h; cases h
  | some o =>
    rw [hh] at h
    cases o with
    | cells cs t fr => simp only [Option.some.injEq] at h; subst h; exact ⟨t, fr, rfl⟩
    | _ => cases h
theorem words_cell {w : World} (h : WordsIs w) (op : Int) (h1 : 1 ≤ op) (h2 : op ≤ 40) : w.cell? ⟨0, op.toNat, none⟩ = some (.string (wordC op)) := by
  obtain ⟨t, fr, hb⟩ := words_block h
  have h3 := wordsV_at op h1 h2
  simp [World.cell?, hb, h3]
theorem words_lt {w : World} (h : WordsIs w) : 0 < w.heap.size := by
  obtain ⟨t, fr, hb⟩ := words_block h
  rcases Nat.lt_or_ge 0 w.heap.size with h0 | h0
  · exact h0
  · rw [Array.getElem?_eq_none h0] at hb; cases hb
theorem word_small (op : Int) : (wordC op).size ≤ 8 := by
  by_cases h : 1 ≤ op ∧ op ≤ 40
  · rcases (by omega : op = 1 ∨ op = 2 ∨ op = 3 ∨ op = 4 ∨ op = 5 ∨ op = 6 ∨ op = 7 ∨ op = 8 ∨ op = 9 ∨ op = 10 ∨ op = 11 ∨ op = 12 ∨ op = 13 ∨ op = 14 ∨ op = 15 ∨ op = 16 ∨ op = 17 ∨ op = 18 ∨ op = 19 ∨ op = 20 ∨ op = 21 ∨ op = 22 ∨ op = 23 ∨ op = 24 ∨ op = 25 ∨ op = 26 ∨ op = 27 ∨ op = 28 ∨ op = 29 ∨ op = 30 ∨ op = 31 ∨ op = 32 ∨ op = 33 ∨ op = 34 ∨ op = 35 ∨ op = 36 ∨ op = 37 ∨ op = 38 ∨ op = 39 ∨ op = 40) with rfl | rfl | rfl | rfl | rfl | rfl | rfl | rfl | rfl | rfl | rfl | rfl | rfl | rfl | rfl | rfl | rfl | rfl | rfl | rfl | rfl | rfl | rfl | rfl | rfl | rfl | rfl | rfl | rfl | rfl | rfl | rfl | rfl | rfl | rfl | rfl | rfl | rfl | rfl | rfl <;> decide
  · unfold wordC; rw [if_neg h]; decide
theorem name_small {l : List Nat} (h : rightN l = true) : l.length ≤ 32 := by
  cases l with
  | nil => simp
  | cons c t =>
    unfold rightN at h
    simp only [Bool.and_eq_true, decide_eq_true_eq] at h
    exact h.1.1
theorem show_small {v : Int} (h : (Lit.int .i64 v).wf = true) : (showN v).length ≤ 20 := by
  have hv := h
  simp [Lit.wf, IntKind.min, IntKind.max, IntKind.signed, IntKind.bits] at hv
  exact (intN_some (intN_show hv.1 hv.2)).2.2.2
theorem wf_range {v : Int} (h : (Lit.int .i64 v).wf = true) : -9223372036854775808 ≤ v ∧ v ≤ 9223372036854775807 := by
  simpa [Lit.wf, IntKind.min, IntKind.max, IntKind.signed, IntKind.bits] using h
theorem line_of {wd : ByteArray} {t : List Nat} {l : List Nat} (h : l = bs wd ++ 32 :: t) : wd ++ ((⟨#[32]⟩ : ByteArray) ++ txt t) = txt l := by
  rw [h, ← txt_app, txt_bs, show (32 :: t : List Nat) = [32] ++ t from rfl, ← txt_app]
  rfl
theorem shown_any (d : Ins) (hd : d.ok) (hpl : plainN d = true) (w : World) (hw : WordsIs w) (hpw : Pow w) :
    Calls Tryz.prog 18 #[.agg #[.int .i64 d.op, .int .i64 d.arg, .int .i64 d.int, .string d.text]] w fun e w' => e = .returned (.string (txt (lineC d ++ [10]))) ∧ Below w.heap.size w w' := by
  obtain ⟨h1, h2, h3⟩ := plain_ops hpl
  have hc := words_cell hw d.op h1 h2
  have h0 := words_lt hw
  have hsm := word_small d.op
  have ht3 : hasN d.op = 3 → d.text.size ≤ 4096 := by
    intro h
    unfold plainN at hpl
    simp only [Bool.and_eq_true, h, if_pos, decide_eq_true_eq] at hpl
    exact hpl.2
  have ht4 : hasN d.op = 4 → d.text.size ≤ 32 := by
    intro h
    unfold plainN at hpl
    simp [h] at hpl
    have := name_small hpl.2
    rwa [bs_len] at this
  obtain ⟨op, arg, int, text⟩ := d
  obtain ⟨hd0, hd1, hd2, hd3⟩ := hd
  simp only at h1 h2 h3 hc hsm ht3 ht4 hd0 hd1 hd2 hd3 ⊢
  have ho0 : 0 ≤ op := by omega
  have ho1 : op < 41 := by omega
  have HW := zH (fun W => what_any op h1 h2 W)
  have HLN : Hid (lineC ⟨op, arg, int, text⟩ = bs (wordC op) ++ (match hasN op with | 1 => 32 :: showN arg | 5 => 32 :: showN arg | 2 => 32 :: showN int | 3 => 32 :: quoteN (bs text) | 4 => 32 :: bs text | _ => [])) := zH rfl
  have HA := zH hd1
  have HI := zH hd2
  have SA : Hid (∀ W, Below w.heap.size w W → Calls Tryz.prog 32 #[.int .i64 arg] W fun e w' => e = .returned (.string (txt (showN arg))) ∧ Below W.heap.size W w') := zH (fun W hW => show_any arg (wf_range hd1).1 (wf_range hd1).2 W (hpw.below hW))
  have SI : Hid (∀ W, Below w.heap.size w W → Calls Tryz.prog 32 #[.int .i64 int] W fun e w' => e = .returned (.string (txt (showN int))) ∧ Below W.heap.size W w') := zH (fun W hW => show_any int (wf_range hd2).1 (wf_range hd2).2 W (hpw.below hW))
  have zA := show_small hd1
  have zI := show_small hd2
  have zQ : hasN op = 3 → (quoteN (bs text)).length ≤ 16500 := by
    intro h
    have h5 := flat_len (bs text)
    have h6 := ht3 h
    rw [bs_len] at h5
    unfold quoteN
    simp only [List.length_cons, List.length_append, List.length_nil]
    omega
  have QU : Hid (hasN op = 3 → ∀ W, Calls Tryz.prog 33 #[.string text] W fun e w' => e = .returned (.string (txt (quoteN (bs text)))) ∧ Below W.heap.size W w') := zH (fun h W => quote_any text (by have := ht3 h; omega) W)
  obtain ⟨wd, hwd⟩ : ∃ x, wordC op = x := ⟨_, rfl⟩
  rw [hwd] at hc hsm HLN
  clear hpl hw hpw h1 h2 hd0 hd1 hd2 hd3 hwd
  rcases hasN_le op with hm | hm | hm | hm | hm | hm
  all_goals rw [hm] at HW HLN
  all_goals have Hm := zH hm
  · have z1 : ¬ 9223372036854775807 < wd.size + 1 := by omega
    clear ht3 ht4 zQ hm
    go_enter Tryz.func18, Tryz.ntmps18
    go_wp2_with (first
      | (go_at_call 31; refine (HW.out _).mono ?_; rintro e w1 ⟨rfl, nq, rfl⟩)
      | fail)
    go_ret
    refine ⟨?_, below_drewN (zB.alloc zL _) _⟩
    rw [HLN.out, List.append_nil, ← txt_app, txt_bs]
    rfl
  · have hz : (txt (showN arg)).size ≤ 20000 := by have := zA; rw [txt_size]; omega
    have z1 : ¬ 9223372036854775807 < 1 + (txt (showN arg)).size := by omega
    have z2 : ¬ 9223372036854775807 < wd.size + (1 + (txt (showN arg)).size) := by omega
    have z3 : ¬ 9223372036854775807 < wd.size + (1 + (txt (showN arg)).size) + 1 := by omega
    clear ht3 ht4 zQ hm
    go_enter Tryz.func18, Tryz.ntmps18
    go_wp2_with (first
      | (go_at_call 31; refine (HW.out _).mono ?_; rintro e w1 ⟨rfl, nq, rfl⟩)
      | (go_at_call 32; refine (SA.out _ (below_drewN (zB.alloc zL _) _)).mono ?_; rintro e w2 ⟨rfl, hb⟩; have H2 : Hid (Below w.heap.size w w2) := zH ((below_drewN (zB.alloc zL _) _ : Below w.heap.size w _).trans (hb.mono (by simp))); clear hb)
      | fail)
    go_ret
    refine ⟨?_, H2.out⟩
    rw [← txt_app, ← line_of (wd := wd) (t := showN arg) HLN.out]
    rfl
  · have hz : (txt (showN int)).size ≤ 20000 := by have := zI; rw [txt_size]; omega
    have z1 : ¬ 9223372036854775807 < 1 + (txt (showN int)).size := by omega
    have z2 : ¬ 9223372036854775807 < wd.size + (1 + (txt (showN int)).size) := by omega
    have z3 : ¬ 9223372036854775807 < wd.size + (1 + (txt (showN int)).size) + 1 := by omega
    clear ht3 ht4 zQ hm
    go_enter Tryz.func18, Tryz.ntmps18
    go_wp2_with (first
      | (go_at_call 31; refine (HW.out _).mono ?_; rintro e w1 ⟨rfl, nq, rfl⟩)
      | (go_at_call 32; refine (SI.out _ (below_drewN (zB.alloc zL _) _)).mono ?_; rintro e w2 ⟨rfl, hb⟩; have H2 : Hid (Below w.heap.size w w2) := zH ((below_drewN (zB.alloc zL _) _ : Below w.heap.size w _).trans (hb.mono (by simp))); clear hb)
      | fail)
    go_ret
    refine ⟨?_, H2.out⟩
    rw [← txt_app, ← line_of (wd := wd) (t := showN int) HLN.out]
    rfl
  · have hz : (txt (quoteN (bs text))).size ≤ 20000 := by have := zQ hm; rw [txt_size]; omega
    have z1 : ¬ 9223372036854775807 < 1 + (txt (quoteN (bs text))).size := by omega
    have z2 : ¬ 9223372036854775807 < wd.size + (1 + (txt (quoteN (bs text))).size) := by omega
    have z3 : ¬ 9223372036854775807 < wd.size + (1 + (txt (quoteN (bs text))).size) + 1 := by omega
    clear ht3 ht4 zQ hm
    go_enter Tryz.func18, Tryz.ntmps18
    go_wp2_with (first
      | (go_at_call 31; refine (HW.out _).mono ?_; rintro e w1 ⟨rfl, nq, rfl⟩)
      | (go_at_call 33; refine (QU.out Hm.out _).mono ?_; rintro e w2 ⟨rfl, hb⟩; have H2 : Hid (Below w.heap.size w w2) := zH ((below_drewN (zB.alloc zL _) _ : Below w.heap.size w _).trans (hb.mono (by simp))); clear hb)
      | fail)
    go_ret
    refine ⟨?_, H2.out⟩
    rw [← txt_app, ← line_of (wd := wd) (t := quoteN (bs text)) HLN.out]
    rfl
  · have hz : text.size ≤ 20000 := by have := ht4 hm; omega
    have z1 : ¬ 9223372036854775807 < 1 + text.size := by omega
    have z2 : ¬ 9223372036854775807 < wd.size + (1 + text.size) := by omega
    have z3 : ¬ 9223372036854775807 < wd.size + (1 + text.size) + 1 := by omega
    clear ht3 ht4 zQ hm
    go_enter Tryz.func18, Tryz.ntmps18
    go_wp2_with (first
      | (go_at_call 31; refine (HW.out _).mono ?_; rintro e w1 ⟨rfl, nq, rfl⟩)
      | fail)
    go_ret
    refine ⟨?_, below_drewN (zB.alloc zL _) _⟩
    rw [← txt_app, ← line_of (wd := wd) (t := bs text) HLN.out, txt_bs]
    rfl
  · have hz : (txt (showN arg)).size ≤ 20000 := by have := zA; rw [txt_size]; omega
    have z1 : ¬ 9223372036854775807 < 1 + (txt (showN arg)).size := by omega
    have z2 : ¬ 9223372036854775807 < wd.size + (1 + (txt (showN arg)).size) := by omega
    have z3 : ¬ 9223372036854775807 < wd.size + (1 + (txt (showN arg)).size) + 1 := by omega
    clear ht3 ht4 zQ hm
    go_enter Tryz.func18, Tryz.ntmps18
    go_wp2_with (first
      | (go_at_call 31; refine (HW.out _).mono ?_; rintro e w1 ⟨rfl, nq, rfl⟩)
      | (go_at_call 32; refine (SA.out _ (below_drewN (zB.alloc zL _) _)).mono ?_; rintro e w2 ⟨rfl, hb⟩; have H2 : Hid (Below w.heap.size w w2) := zH ((below_drewN (zB.alloc zL _) _ : Below w.heap.size w _).trans (hb.mono (by simp))); clear hb)
      | fail)
    go_ret
    refine ⟨?_, H2.out⟩
    rw [← txt_app, ← line_of (wd := wd) (t := showN arg) HLN.out]
    rfl
end Go.Proofs.YtdkoafmgenbkbaaGreatDoor
namespace Go.Proofs.YtdkoafmgenbkbaaGreatDoor
open Go.RowKit
theorem drop_bs {l : List Nat} {k c : Nat} (h : l[k]? = some c) : l.drop k = c :: l.drop (k + 1) := by
  have hk := (List.getElem?_eq_some_iff.1 h).1
  rw [List.drop_eq_getElem_cons hk, (List.getElem?_eq_some_iff.1 h).2]
def escV (l : List Nat) : Value := match esc l with
  | (some (c, n), _) => .tuple #[.int .u8 (c : Int), .int .i64 (n : Int), .bool true]
  | (none, n) => .tuple #[.int .u8 0, .int .i64 (n : Int), .bool false]
theorem bits_or (h l : Nat) (hh : h < 16) (hl : l < 16) : bits .or .u8 ((h : Int) * 16) (l : Int) = (h : Int) * 16 + (l : Int) := by
  have : ∀ h l : Fin 16, bits .or .u8 ((h.1 : Int) * 16) (l.1 : Int) = (h.1 : Int) * 16 + (l.1 : Int) := by decide +kernel
  exact this ⟨h, hh⟩ ⟨l, hl⟩
theorem hidden_at (i : Int) (n : Nat) (b : Bool) (hi : i = (n : Int)) (hb : hiddenN n = b) (w : World) : Calls Tryz.prog 56 #[.int .u8 i] w fun e w' => e = .returned (.bool b) ∧ Quiet w w' := by
  subst hi hb
  exact hidden_any n w
theorem escape_any (s : ByteArray) (b : Nat) (l : List Nat) (hl : bs s = b :: l) (hs : s.size ≤ maxLen) (w : World) : Calls Tryz.prog 60 #[.string s] w fun e w' => e = .returned (escV l) ∧ Quiet w w' := by
  unfold maxLen at hs
  have hsz : s.size = l.length + 1 := by rw [← bs_len, hl]; rfl
  have hby : Bytes l := fun n hn => bs_bytes s n (by rw [hl]; exact List.mem_cons_of_mem _ hn)
  match l, hl, hsz, hby with
  | [], hl, hsz, _ =>
    simp at hsz
    go_enter Tryz.func60, Tryz.ntmps60
    go_wp2_with fail
    go_ret3
    exact ⟨rfl, Quiet.refl _⟩
  | d :: t, hl, hsz, hby =>
    have d256 : d < 256 := hby d (List.mem_cons_self ..)
    have hge : ¬ s.size < 2 := by simp at hsz; omega
    have i1 := fun W => index_txt W 9 Tryz.underlying9 (s := s) (k := 1) (c := d) (by rw [hl]; rfl) .i64 1 rfl
    have I1 := zH i1
    clear i1
    by_cases h1 : d = 34
    · subst h1
      have i1 := I1.out
      go_enter Tryz.func60, Tryz.ntmps60
      go_wp2_with fail
      go_ret3
      exact ⟨rfl, Quiet.refl _⟩
    have e1 : ((d : Int) == 34) = false := by simp; omega
    by_cases h2 : d = 92
    · subst h2
      have i1 := I1.out
      go_enter Tryz.func60, Tryz.ntmps60
      go_wp2_with fail
      go_ret3
      exact ⟨rfl, Quiet.refl _⟩
    have e2 : ((d : Int) == 92) = false := by simp; omega
    by_cases h3 : d = 110
    · subst h3
      have i1 := I1.out
      go_enter Tryz.func60, Tryz.ntmps60
      go_wp2_with fail
      go_ret3
      exact ⟨rfl, Quiet.refl _⟩
    have e3 : ((d : Int) == 110) = false := by simp; omega
    by_cases h4 : d = 120
    · subst h4
      match t, hl, hsz, hby with
      | [], hl, hsz, _ =>
        have i1 := I1.out
        simp at hsz
        go_enter Tryz.func60, Tryz.ntmps60
        go_wp2_with fail
        go_ret3
        exact ⟨rfl, Quiet.refl _⟩
      | h :: t, hl, hsz, hby =>
        have h256 : h < 256 := hby h (by simp)
        have hge3 : ¬ s.size < 3 := by simp at hsz; omega
        have i2 := fun W => index_txt W 9 Tryz.underlying9 (s := s) (k := 2) (c := h) (by rw [hl]; rfl) .i64 2 rfl
        have I2 := zH i2
        clear i2
        have hd : digitN h ≤ 16 := by unfold digitN; split <;> (try split) <;> omega
        have D1 := zH (fun W => digit_any h h256 W)
        obtain ⟨dh, hdh⟩ : ∃ dh, digitN h = dh := ⟨_, rfl⟩
        rw [hdh] at hd D1
        by_cases h5 : 15 < dh
        · have hv : esc (120 :: h :: t) = (none, 2) := by simp [esc, hdh, h5]
          have Hv : escV (120 :: h :: t) = .tuple #[.int .u8 0, .int .i64 2, .bool false] := by simp [escV, hv]
          have HV := zH Hv
          clear hv Hv
          have i1 := I1.out
          have i2 := I2.out
          go_enter Tryz.func60, Tryz.ntmps60
          go_wp2_with (go_at_call 79; refine (D1.out _).mono ?_; rintro e w1 ⟨rfl, q1⟩)
          go_ret3
          exact ⟨by rw [HV.out]; rfl, q1⟩
        · obtain ⟨ha, hha⟩ : ∃ ha, hiddenN (16 * dh) = ha := ⟨_, rfl⟩
          obtain ⟨hb, hhb⟩ : ∃ hb, hiddenN (16 * dh + 15) = hb := ⟨_, rfl⟩
          have A1 := zH (fun W => hidden_at ((dh : Int) * 16) (16 * dh) ha (by omega) hha W)
          have B1 := zH (fun W => hidden_at ((dh : Int) * 16 + 15) (16 * dh + 15) hb (by omega) hhb W)
          have o1 : bits .or .u8 ((dh : Int) * 16) 15 = (dh : Int) * 16 + 15 := bits_or dh 15 (by omega) (by omega)
          have dlt : decide (15 < (dh : Int)) = false := by simp; omega
          by_cases hc : ha = false ∧ hb = false
          · obtain ⟨rfl, rfl⟩ := hc
            have Hv : escV (120 :: h :: t) = .tuple #[.int .u8 0, .int .i64 2, .bool false] := by simp [escV, esc, hdh, h5, hha, hhb]
            have HV := zH Hv
            clear Hv hha hhb
            have i1 := I1.out
            have i2 := I2.out
            have tok : True := trivial
            go_enter Tryz.func60, Tryz.ntmps60
            go_wp2_with (first
              | (go_at_call 79; refine (D1.out _).mono ?_; rintro e w1 ⟨rfl, q1⟩)
              | (go_at_call 56; have _t := tok; refine (A1.out _).mono ?_; rintro e w2 ⟨rfl, q2⟩; clear tok _t)
              | (go_at_call 56; refine (B1.out _).mono ?_; rintro e w3 ⟨rfl, q3⟩))
            go_ret3
            exact ⟨by rw [HV.out]; rfl, (q1.trans q2).trans q3⟩
          · -- it may be hidden: go on
            have Hor : ha = true ∨ (ha = false ∧ hb = true) := by
              cases ha <;> cases hb <;> simp at hc ⊢
            have hcond : ¬ (15 < dh ∨ (hiddenN (16 * dh) = false ∧ hiddenN (16 * dh + 15) = false)) := by
              rw [hha, hhb]
              intro hx
              rcases hx with hx | hx
              · exact h5 hx
              · exact hc hx
            clear hha hhb
            match t, hl, hsz, hby with
            | [], hl, hsz, _ =>
              have Hv : escV [120, h] = .tuple #[.int .u8 0, .int .i64 3, .bool false] := by simp only [escV, esc, hdh]; rw [if_neg (by omega), if_neg (by omega), if_neg (by simp), if_neg hcond]; rfl
              have HV := zH Hv
              clear Hv hcond
              simp at hsz
              rcases Hor with rfl | ⟨rfl, rfl⟩
              · have i1 := I1.out
                have i2 := I2.out
                go_enter Tryz.func60, Tryz.ntmps60
                go_wp2_with (first
                  | (go_at_call 79; refine (D1.out _).mono ?_; rintro e w1 ⟨rfl, q1⟩)
                  | (go_at_call 56; refine (A1.out _).mono ?_; rintro e w2 ⟨rfl, q2⟩))
                go_ret3
                exact ⟨by rw [HV.out]; rfl, q1.trans q2⟩
              · have i1 := I1.out
                have i2 := I2.out
                have tok : True := trivial
                go_enter Tryz.func60, Tryz.ntmps60
                go_wp2_with (first
                  | (go_at_call 79; refine (D1.out _).mono ?_; rintro e w1 ⟨rfl, q1⟩)
                  | (go_at_call 56; have _t := tok; refine (A1.out _).mono ?_; rintro e w2 ⟨rfl, q2⟩; clear tok _t)
                  | (go_at_call 56; refine (B1.out _).mono ?_; rintro e w3 ⟨rfl, q3⟩))
                go_ret3
                exact ⟨by rw [HV.out]; rfl, (q1.trans q2).trans q3⟩
            | lo :: t, hl, hsz, hby =>
              have lo256 : lo < 256 := hby lo (by simp)
              have hge4 : ¬ s.size < 4 := by simp at hsz; omega
              have i3 := fun W => index_txt W 9 Tryz.underlying9 (s := s) (k := 3) (c := lo) (by rw [hl]; rfl) .i64 3 rfl
              have I3 := zH i3
              clear i3
              have hd' : digitN lo ≤ 16 := by unfold digitN; split <;> (try split) <;> omega
              have E1 := zH (fun W => digit_any lo lo256 W)
              obtain ⟨dl, hdl⟩ : ∃ dl, digitN lo = dl := ⟨_, rfl⟩
              rw [hdl] at hd' E1
              -- what is common tw all: the calls up tw the second digit
              by_cases h6 : 15 < dl
              · have Hv : escV (120 :: h :: lo :: t) = .tuple #[.int .u8 0, .int .i64 3, .bool false] := by simp only [escV, esc, hdh, hdl]; rw [if_neg (by omega), if_neg (by omega), if_neg (by simp), if_neg hcond, if_pos (Or.inl h6)]; rfl
                have HV := zH Hv
                clear Hv hcond
                have tok : True := trivial
                have tok2 : True := trivial
                rcases Hor with rfl | ⟨rfl, rfl⟩
                · have i1 := I1.out
                  have i2 := I2.out
                  have i3 := I3.out
                  go_enter Tryz.func60, Tryz.ntmps60
                  go_wp2_with (first
                    | (go_at_call 79; have _t := tok; refine (D1.out _).mono ?_; rintro e w1 ⟨rfl, q1⟩; clear tok _t)
                    | (go_at_call 79; refine (E1.out _).mono ?_; rintro e w4 ⟨rfl, q4⟩)
                    | (go_at_call 56; refine (A1.out _).mono ?_; rintro e w2 ⟨rfl, q2⟩))
                  go_ret3
                  exact ⟨by rw [HV.out]; rfl, (q1.trans q2).trans q4⟩
                · have i1 := I1.out
                  have i2 := I2.out
                  have i3 := I3.out
                  go_enter Tryz.func60, Tryz.ntmps60
                  go_wp2_with (first
                    | (go_at_call 79; have _t := tok; refine (D1.out _).mono ?_; rintro e w1 ⟨rfl, q1⟩; clear tok _t)
                    | (go_at_call 79; refine (E1.out _).mono ?_; rintro e w4 ⟨rfl, q4⟩)
                    | (go_at_call 56; have _t := tok2; refine (A1.out _).mono ?_; rintro e w2 ⟨rfl, q2⟩; clear tok2 _t)
                    | (go_at_call 56; refine (B1.out _).mono ?_; rintro e w3 ⟨rfl, q3⟩))
                  go_ret3
                  exact ⟨by rw [HV.out]; rfl, ((q1.trans q2).trans q3).trans q4⟩
              · obtain ⟨hf, hhf⟩ : ∃ hf, hiddenN (16 * dh + dl) = hf := ⟨_, rfl⟩
                have F1 := zH (fun W => hidden_at ((dh : Int) * 16 + (dl : Int)) (16 * dh + dl) hf (by omega) hhf W)
                have o2 : bits .or .u8 ((dh : Int) * 16) (dl : Int) = (dh : Int) * 16 + (dl : Int) := bits_or dh dl (by omega) (by omega)
                have dlt2 : decide (15 < (dl : Int)) = false := by simp; omega
                have Hv : escV (120 :: h :: lo :: t) = (if hf then .tuple #[.int .u8 ((dh : Int) * 16 + (dl : Int)), .int .i64 4, .bool true] else .tuple #[.int .u8 0, .int .i64 3, .bool false]) := by
                  simp only [escV, esc, hdh, hdl]
                  rw [if_neg (by omega), if_neg (by omega), if_neg (by simp), if_neg hcond, hhf]
                  cases hf
                  · rw [if_pos (Or.inr rfl)]; rfl
                  · rw [if_neg (by simp; omega)]
                    have : ((16 * dh + dl : Nat) : Int) = (dh : Int) * 16 + (dl : Int) := by omega
                    simp only [this]; rfl
                have HV := zH Hv
                clear Hv hcond hhf
                have tok : True := trivial
                have tok2 : True := trivial
                have tok3 : True := trivial
                cases hf
                all_goals rcases Hor with rfl | ⟨rfl, rfl⟩
                all_goals
                  have i1 := I1.out
                  have i2 := I2.out
                  have i3 := I3.out
                  go_enter Tryz.func60, Tryz.ntmps60
                  go_wp2_with (first
                    | (go_at_call 79; have _t := tok; refine (D1.out _).mono ?_; rintro e w1 ⟨rfl, q1⟩; clear tok _t)
                    | (go_at_call 79; refine (E1.out _).mono ?_; rintro e w4 ⟨rfl, q4⟩)
                    | (go_at_call 56; have _t := tok2; refine (A1.out _).mono ?_; rintro e w2 ⟨rfl, q2⟩; clear tok2 _t)
                    | (go_at_call 56; have _t := q4; refine (F1.out _).mono ?_; rintro e w5 ⟨rfl, q5⟩)
                    | (go_at_call 56; refine (B1.out _).mono ?_; rintro e w3 ⟨rfl, q3⟩))
                  go_ret3
                  first
                    | exact ⟨by rw [HV.out]; rfl, ((q1.trans q2).trans q4).trans q5⟩
                    | exact ⟨by rw [HV.out]; rfl, (((q1.trans q2).trans q3).trans q4).trans q5⟩
    · have hv : escV (d :: t) = .tuple #[.int .u8 0, .int .i64 1, .bool false] := by simp [escV, esc, h1, h2, h3, h4]
      have HV := zH hv
      clear hv
      have e4 : ((d : Int) == 120) = false := by simp; omega
      have i1 := I1.out
      go_enter Tryz.func60, Tryz.ntmps60
      go_wp2_with fail
      go_ret3
      exact ⟨by rw [HV.out]; rfl, Quiet.refl _⟩
end Go.Proofs.YtdkoafmgenbkbaaGreatDoor
namespace Go.Proofs.YtdkoafmgenbkbaaGreatDoor
open Go.RowKit
theorem one_some {r : List Nat} (hr : Bytes r) (h34 : r.head? ≠ some 34) {c n m : Nat} (h : one r = (some (c, n), m)) : c < 256 ∧ n = (formN c).length ∧ ∃ t, r = formN c ++ t := by
  match r, h34, h, hr with
  | [], _, h, _ => simp [one] at h
  | b :: t, h34, h, hr =>
    have b256 : b < 256 := hr b (by simp)
    by_cases hb : b = 92
    · subst hb
      simp only [one, if_pos] at h
      match t, h, hr with
      | [], h, _ => simp [esc] at h
      | d :: t, h, hr =>
        by_cases h1 : d = 34
        · subst h1; simp [esc] at h; obtain ⟨⟨rfl, rfl⟩, _⟩ := h; exact ⟨by omega, rfl, t, rfl⟩
        by_cases h2 : d = 92
        · subst h2; simp [esc] at h; obtain ⟨⟨rfl, rfl⟩, _⟩ := h; exact ⟨by omega, rfl, t, rfl⟩
        by_cases h3 : d = 110
        · subst h3; simp [esc] at h; obtain ⟨⟨rfl, rfl⟩, _⟩ := h; exact ⟨by omega, rfl, t, rfl⟩
        by_cases h4 : d = 120
        · subst h4
          match t, h, hr with
          | [], h, _ => simp [esc] at h
          | x :: t, h, hr =>
            by_cases hg : 15 < digitN x ∨ (hiddenN (16 * digitN x) = false ∧ hiddenN (16 * digitN x + 15) = false)
            · simp [esc, hg] at h
            · match t, h, hr with
              | [], h, _ => simp [esc, hg] at h
              | y :: t, h, hr =>
                by_cases hl : 15 < digitN y ∨ hiddenN (16 * digitN x + digitN y) = false
                · simp [esc, hg, hl] at h
                · simp [esc, hg, hl] at h
                  obtain ⟨⟨rfl, rfl⟩, _⟩ := h
                  have d1 : digitN x ≤ 15 := by omega
                  have d2 : digitN y ≤ 15 := by omega
                  have hh : hiddenN (16 * digitN x + digitN y) = true := by
                    rcases hb : hiddenN (16 * digitN x + digitN y) with _ | _
                    · exact absurd (Or.inr hb) hl
                    · rfl
                  have q1 : (16 * digitN x + digitN y) / 16 = digitN x := by omega
                  have q2 : (16 * digitN x + digitN y) % 16 = digitN y := by omega
                  rw [form_hidden hh, q1, q2, hex_of_digit x d1, hex_of_digit y d2]
                  exact ⟨by omega, rfl, t, rfl⟩
        · simp [esc, h1, h2, h3, h4] at h
    · by_cases hp : b < 32 ∨ 126 < b
      · simp [one, hb, hp] at h
      · simp [one, hb, hp] at h
        obtain ⟨⟨rfl, rfl⟩, _⟩ := h
        have h34' : b ≠ 34 := by simpa using h34
        rw [form_plain (by omega) (by omega) h34' hb]
        exact ⟨b256, rfl, t, rfl⟩
theorem esc_some {l : List Nat} (hl : Bytes l) {c n m : Nat} (h : esc l = (some (c, n), m)) : c < 256 ∧ 2 ≤ n ∧ n ≤ l.length + 1 := by
  have h1 : one (92 :: l) = (some (c, n), m) := by simp [one, h]
  obtain ⟨c1, c2, t, c3⟩ := one_some (fun k hk => by rcases List.mem_cons.1 hk with rfl | hk; omega; exact hl k hk) (by simp) h1
  have e := congrArg List.length c3
  simp at e
  have : formN c ≠ [92] := by
    rcases form_cases c with ⟨_, h⟩ | ⟨_, h⟩ | ⟨_, h⟩ | ⟨_, _, _, h4, h⟩ | ⟨_, h⟩ <;> rw [h] <;> simp [*]
  have hl1 : (formN c).length ≠ 1 := by
    intro hl1
    match hf : formN c, hl1, c3 with
    | [z], _, c3 =>
      injection c3 with c4 _
      exact this (by rw [hf, ← c4])
  have := form_len c
  omega
theorem esc_none {l : List Nat} {n : Nat} (h : esc l = (none, n)) : 1 ≤ n ∧ n ≤ l.length + 1 := by
  match l, h with
  | [], h => simp [esc] at h; subst h; simp
  | d :: t, h =>
    simp only [esc] at h
    split at h
    · simp at h
    · split at h
      · simp at h
      · split at h
        · simp at h; subst h; simp
        · match t, h with
          | [], h => simp at h; subst h; simp
          | x :: t, h =>
            simp only at h
            split at h
            · simp at h; subst h; simp
            · match t, h with
              | [], h => simp at h; subst h; simp
              | y :: t, h =>
                simp only at h
                split at h
                · simp at h; subst h; simp
                · simp at h
def unq (l : List Nat) : Nat → Nat → List Nat → List Nat × Nat × Nat
  | 0, i, _ => ([], i, 10)
  | f + 1, i, out => if l[i]? = some 34 then (out, i + 1, 0) else
    match one (l.drop i) with
    | (some (c, n), _) => unq l f (i + n) (out ++ [c])
    | (none, far) => ([], i + far, 10)
def unquoteN (l : List Nat) (a : Int) : List Nat × Int × Nat :=
  if a < 0 ∨ (l.length : Int) < a then ([], 0, 2) else if l[a.toNat]? ≠ some 34 then ([], a, 10) else
    ((unq l (l.length + 1) (a.toNat + 1) []).1, ((unq l (l.length + 1) (a.toNat + 1) []).2.1 : Int), (unq l (l.length + 1) (a.toNat + 1) []).2.2)
def unqV (r : List Nat × Int × Nat) : Value := .tuple #[.string (txt r.1), .int .i64 r.2.1, .int .i64 (r.2.2 : Int)]
theorem unq_end {l : List Nat} {f i : Nat} {o : List Nat} {R : List Nat × Nat × Nat} (h : unq l f i o = R) (hf : 1 ≤ f) (hi : l[i]? = some 34) : R = (o, i + 1, 0) := by
  obtain ⟨f, rfl⟩ : ∃ g, f = g + 1 := ⟨f - 1, by omega⟩
  rw [← h, unq, if_pos hi]
theorem unq_stop {l : List Nat} {f i far : Nat} {o : List Nat} {R : List Nat × Nat × Nat} (h : unq l f i o = R) (hf : 1 ≤ f) (hi : l[i]? ≠ some 34) (ho : one (l.drop i) = (none, far)) : R = ([], i + far, 10) := by
  obtain ⟨f, rfl⟩ : ∃ g, f = g + 1 := ⟨f - 1, by omega⟩
  rw [← h, unq, if_neg hi, ho]
theorem unq_step {l : List Nat} {f i c n m : Nat} {o : List Nat} {R : List Nat × Nat × Nat} (h : unq l f i o = R) (hf : 1 ≤ f) (hi : l[i]? ≠ some 34) (ho : one (l.drop i) = (some (c, n), m)) : unq l (f - 1) (i + n) (o ++ [c]) = R := by
  obtain ⟨f, rfl⟩ : ∃ g, f = g + 1 := ⟨f - 1, by omega⟩
  rw [← h, unq, if_neg hi, ho]
  rfl
theorem unquote_any (s : ByteArray) (a : Int) (ha : (Lit.int .i64 a).wf = true) (hs : s.size ≤ 1048576) (w : World) : Calls Tryz.prog 41 #[.string s, .int .i64 a] w fun e w' => e = .returned (unqV (unquoteN (bs s) a)) ∧ Below w.heap.size w w' := by
  obtain ⟨j, hi, hz, hsz, hby⟩ := info_parts info_byte
  have I := zH (And.intro hi (And.intro hz (And.intro hsz hby)))
  clear hi hz hsz hby
  obtain ⟨n, hn⟩ : ∃ n, s.size = n := ⟨_, rfl⟩
  have Hn := zH hn
  have hln : (bs s).length = n := by rw [bs_len, hn]
  have Hln := zH hln
  rw [hn] at hs
  have hn' : (s.size : Int) = (n : Int) := by rw [hn]
  clear hn
  by_cases h1 : a < 0
  · have hv : unquoteN (bs s) a = ([], 0, 2) := by simp [unquoteN, h1]
    have HV := zH hv
    clear hv hln
    go_enter Tryz.func41, Tryz.ntmps41
    go_wp2_with fail
    go_step3
    go_wp2_with fail
    rw [Exit.noGoto_ret]
    go_ret3
    exact ⟨by rw [HV.out]; rfl, zB⟩
  have d1 : decide (a < 0) = false := by simpa using h1
  by_cases h2 : (n : Int) < a
  · have hv : unquoteN (bs s) a = ([], 0, 2) := by simp [unquoteN, hln, h2]
    have HV := zH hv
    clear hv hln
    go_enter Tryz.func41, Tryz.ntmps41
    go_wp2_with fail
    go_step3
    go_wp2_with fail
    rw [Exit.noGoto_ret]
    go_ret3
    exact ⟨by rw [HV.out]; rfl, zB⟩
  have d2 : decide ((n : Int) < a) = false := by simpa using h2
  obtain ⟨k0, rfl⟩ : ∃ k : Nat, a = (k : Int) := ⟨a.toNat, by omega⟩
  have hgate : unquoteN (bs s) k0 = if (bs s)[k0]? ≠ some 34 then ([], (k0 : Int), 10) else ((unq (bs s) (n + 1) (k0 + 1) []).1, ((unq (bs s) (n + 1) (k0 + 1) []).2.1 : Int), (unq (bs s) (n + 1) (k0 + 1) []).2.2) := by
    unfold unquoteN
    rw [if_neg (by rw [hln]; omega), hln]
    rfl
  have d2' : decide (n < k0) = false := by simp; omega
  by_cases h3 : k0 = n
  · subst h3
    have hv : unquoteN (bs s) k0 = ([], (k0 : Int), 10) := by
      rw [hgate, if_pos (by rw [List.getElem?_eq_none (by omega)]; simp)]
    have HV := zH hv
    clear hv hln hgate
    go_enter Tryz.func41, Tryz.ntmps41
    go_wp2_with fail
    go_step3
    go_wp2_with fail
    rw [Exit.noGoto_ret]
    go_ret3
    exact ⟨by rw [HV.out]; rfl, zB⟩
  have d3 : ((k0 : Int) == (n : Int)) = false := by simp; omega
  have hk0 : k0 < s.size := by omega
  have b0 : (0 : Int) ≤ (k0 : Int) := Int.natCast_nonneg _
  obtain ⟨c0, hc0, c0256⟩ := get_bs hk0
  have i0 := fun W => index_txt W 9 Tryz.underlying9 hc0 .i64 _ rfl
  by_cases h4 : c0 = 34
  · subst h4
    rw [hc0, if_neg (by simp)] at hgate
    have HG := zH hgate
    have hR : unq (bs s) (n + 1) (k0 + 1) [] = unq (bs s) (n + 1) (k0 + 1) [] := rfl
    generalize hRR : unq (bs s) (n + 1) (k0 + 1) [] = R at HG hR
    clear hR
    have HR := zH hRR
    have I0 := zH i0
    clear hgate hc0 hRR hln i0
    have i0 := I0.out
    go_enter Tryz.func41, Tryz.ntmps41
    go_wp2_with fail
    go_step3
    go_wp2_with fail
    go_step3
    go_wp2_with fail
    go_loopw [7, 8] (fun o i wr => ∃ (k f : Nat) (out : List Nat), k ≤ n ∧ n < f + k ∧ i = .int .i64 k ∧ Hid (unq (bs s) f k out = R) ∧ Below w.heap.size w wr ∧ Hid (Own1 wr w.heap.size 5 1 IsByte o out ∧ out.length ≤ k)) (fun _ i _ => n - (intOf i).toNat)
    case atStart => exact ⟨k0 + 1, n + 1, [], by omega, by omega, by go_num, HR.out, zB, ⟨[], World.ownsRow_nil _ _ _ _, FlatR.nil_⟩, by simp⟩
    case round =>
      obtain ⟨k, f, out, hk, hf, rfl, hu, hb, ho⟩ := hrel
      clear i0 I0
      have b1 : (0 : Int) ≤ (k : Int) := Int.natCast_nonneg _
      by_cases hlt : k < n
      · have hlt' : k < s.size := by omega
        obtain ⟨c, hc, c256⟩ := get_bs hlt'
        have i1 := fun W => index_txt W 9 Tryz.underlying9 hc .i64 _ rfl
        have hdrop := drop_bs hc
        have hbz := hb.size
        by_cases c1 : c = 34
        · subst c1
          have hv := unq_end hu.out (by omega) hc
          have HV := zH hv
          have hcv := run_text_of_row 52 9 5 Tryz.underlying52 Tryz.underlying5 Tryz.underlying9 ho.out.1
          clear hv hc hdrop
          go_wp2_with fail
          (try simp only [Exit.inBlock, Exit.then, Exit.noGoto_ret])
          go_ret3
          exact ⟨by rw [HG.out, HV.out]; rfl, hb⟩
        have e1 : ((c : Int) == 34) = false := by simp; omega
        have hne : (bs s)[k]? ≠ some 34 := by rw [hc]; simpa using c1
        by_cases c2 : c = 92
        · subst c2
          have hone : one ((bs s).drop k) = esc ((bs s).drop (k + 1)) := by rw [hdrop]; rfl
          have hx : bs (s.extract k s.size) = 92 :: (bs s).drop (k + 1) := by
            rw [bs_extract, ← hdrop, List.take_of_length_le (by rw [bs_len]; exact Nat.le_refl _)]
          have hxs : (s.extract k s.size).size ≤ maxLen := by
            rw [← bs_len, hx, List.length_cons, List.length_drop, Hln.out]; unfold maxLen; omega
          have hby : Bytes ((bs s).drop (k + 1)) := fun m hm => bs_bytes s m (List.mem_of_mem_drop hm)
          have hdl : ((bs s).drop (k + 1)).length = n - (k + 1) := by rw [List.length_drop, Hln.out]
          have E : Hid (∀ W, Calls Tryz.prog 60 #[.string (s.extract k s.size)] W fun e w' => e = .returned (escV ((bs s).drop (k + 1))) ∧ Quiet W w') := zH (fun W => escape_any (s.extract k s.size) 92 ((bs s).drop (k + 1)) hx hxs W)
          have tok : True := trivial
          rcases hE : esc ((bs s).drop (k + 1)) with ⟨_ | ⟨c', n'⟩, m'⟩
          · have hm := esc_none hE
            rw [hdl] at hm
            have hv := unq_stop hu.out (by omega) hne (hone.trans hE)
            have HV := zH hv
            have he : escV ((bs s).drop (k + 1)) = .tuple #[.int .u8 0, .int .i64 (m' : Int), .bool false] := by simp [escV, hE]
            rw [he] at E
            clear hv hc hdrop hone hx hxs hby hdl hne hE he
            go_wp2_with (first
              | (go_at_call 60; have _t := tok; refine (E.out _).mono ?_; rintro e w1 ⟨rfl, qq⟩; clear tok _t)
              | (go_at_call 60; trace_state; fail))
            (try simp only [Exit.inBlock, Exit.then, Exit.noGoto_ret])
            go_ret3
            exact ⟨by rw [HG.out, HV.out]; simp [unqV, txt], by obtain ⟨q, rfl⟩ := qq; exact below_drewN hb q⟩
          · have hm := esc_some hby hE
            rw [hdl] at hm
            have hv := unq_step hu.out (by omega) hne (hone.trans hE)
            have HV := zH hv
            have he : escV ((bs s).drop (k + 1)) = .tuple #[.int .u8 (c' : Int), .int .i64 (n' : Int), .bool true] := by simp [escV, hE]
            rw [he] at E
            clear hv hc hdrop hone hx hxs hby hdl hne hE he
            obtain ⟨hol, hok⟩ := ho.out
            have Ho := zH hol
            clear ho hol
            go_wp2_with (first
              | (go_at_call 60; have _t := tok; refine (E.out _).mono ?_; rintro e w1 ⟨rfl, qq⟩
                 have ho1 : Hid (Own1 w1 w.heap.size 5 1 IsByte u7 out) := by
                   obtain ⟨q, rfl⟩ := qq
                   exact Ho.out.drewN q
                 have hb1 : Below w.heap.size w w1 := by
                   obtain ⟨q, rfl⟩ := qq
                   exact below_drewN hb q
                 have hz1 := hb1.size
                 clear tok _t qq Ho hb)
              | (at_builtin
                 go_must (refine wpList_append_bytes rfl (.tmp 70) (.tmp 72) _ rfl w.heap.size (w1.heap.size + 1) 5 j Tryz.underlying52 I.out.1 I.out.2.1 I.out.2.2.1 I.out.2.2.2 (l := out) (m := [c']) u7 rfl (by exact ho1.out.alloc _) (some ⟨w1.heap.size, 0, none⟩) 1 1 rfl (by exact bytes_row (xs := [.int .u8 (c' : Int)]) rfl rfl (fun m hm => by simp at hm; omega) (by simp [maxLen]) 1 1 rfl rfl) (by omega) (by rw [World.size_alloc]; omega) ?_)
                 intro xa xn xc w4 hown hb4
                 have hbb : Below w.heap.size w w4 := (hb1.alloc (by omega) _).trans hb4))
            go_roundw
            case rel => exact ⟨k + n', f - 1, out ++ [c'], by omega, by omega, by go_num, HV.out, hbb, hown, by simp; omega⟩
            case measure => simp [intOf]; omega
        have e2 : ((c : Int) == 92) = false := by simp; omega
        by_cases c3 : c < 32 ∨ 126 < c
        · have hone : one ((bs s).drop k) = (none, 0) := by rw [hdrop]; simp [one, c2, c3]
          have hv := unq_stop hu.out (by omega) hne hone
          have HV := zH hv
          clear hv hc hdrop hone hne
          have c3' : c < 32 ∨ (¬ c < 32 ∧ 126 < c) := by omega
          clear c3
          rcases c3' with c3 | ⟨c3, c4⟩
          all_goals
            go_wp2_with fail
            (try simp only [Exit.inBlock, Exit.then, Exit.noGoto_ret])
            go_ret3
            exact ⟨by rw [HG.out, HV.out]; simp [unqV, txt], hb⟩
        · have hone : one ((bs s).drop k) = (some (c, 1), 1) := by rw [hdrop]; simp [one, c2, c3]
          have hv := unq_step hu.out (by omega) hne hone
          have HV := zH hv
          have c4 : ¬ c < 32 := by omega
          have c5 : ¬ 126 < c := by omega
          clear hv hc hdrop hone hne c3
          obtain ⟨hol, hok⟩ := ho.out
          have Ho := zH hol
          clear ho hol
          go_wp2_with (at_builtin
                       go_must (refine wpList_append_bytes rfl (.tmp 41) (.tmp 43) _ rfl w.heap.size (wr.heap.size + 1) 5 j Tryz.underlying52 I.out.1 I.out.2.1 I.out.2.2.1 I.out.2.2.2 (l := out) (m := [c]) u7 rfl (by exact Ho.out.alloc _) (some ⟨wr.heap.size, 0, none⟩) 1 1 rfl (by exact bytes_row (xs := [.int .u8 (c : Int)]) rfl rfl (fun m hm => by simp at hm; omega) (by simp [maxLen]) 1 1 rfl rfl) (by omega) (by rw [World.size_alloc]; omega) ?_)
                       intro xa xn xc w4 hown hb4
                       have hbb : Below w.heap.size w w4 := (hb.alloc (by omega) _).trans hb4)
          go_roundw
          case rel => exact ⟨k + 1, f - 1, out ++ [c], by omega, by omega, by go_num, HV.out, hbb, hown, by simp; omega⟩
          case measure => simp [intOf]; omega
      · have hv := unq_stop hu.out (far := 0) (by omega) (by rw [List.getElem?_eq_none (by rw [Hln.out]; omega)]; simp) (by rw [List.drop_of_length_le (by rw [Hln.out]; omega)]; rfl)
        have HV := zH hv
        clear hv
        have hdec : decide (k < n) = false := by simp; omega
        go_wp2_with fail
        (try simp only [Exit.inBlock, Exit.then, Exit.noGoto_ret])
        go_ret3
        exact ⟨by rw [HG.out, HV.out]; simp [unqV, txt], hb⟩
  · have d4 : ((c0 : Int) != 34) = true := by simp; omega
    have hv : unquoteN (bs s) k0 = ([], (k0 : Int), 10) := by rw [hgate, if_pos (by rw [hc0]; simpa using h4)]
    have HV := zH hv
    clear hv hln hgate hc0
    go_enter Tryz.func41, Tryz.ntmps41
    go_wp2_with fail
    go_step3
    go_wp2_with fail
    rw [Exit.noGoto_ret]
    go_ret3
    exact ⟨by rw [HV.out]; rfl, zB⟩
end Go.Proofs.YtdkoafmgenbkbaaGreatDoor
namespace Go.Proofs.YtdkoafmgenbkbaaGreatDoor
theorem quoteP_len (l : List Nat) : (quoteN l).length = (l.flatMap formN).length + 2 := by simp [quoteN]
theorem flatP_ge : ∀ (l : List Nat), l.length ≤ (l.flatMap formN).length
  | [] => by simp
  | c :: l => by
    have := flatP_ge l
    have h1 := (form_len c).1
    simp only [List.flatMap_cons, List.length_append, List.length_cons]
    omega
theorem form_head (c : Nat) : (formN c).head? ≠ some 34 := by
  rcases form_cases c with ⟨_, h⟩ | ⟨_, h⟩ | ⟨_, h⟩ | ⟨_, _, h3, _, h⟩ | ⟨_, h⟩ <;> rw [h] <;> simp [*]
theorem unq_quote : ∀ (m : List Nat) (l : List Nat) (i f : Nat) (out rest : List Nat), Bytes m → l.drop i = m.flatMap formN ++ 34 :: rest → m.length < f → unq l f i out = (out ++ m, i + (m.flatMap formN).length + 1, 0)
  | [], l, i, f, out, rest, _, hd, hf => by
    obtain ⟨f, rfl⟩ : ∃ g, f = g + 1 := ⟨f - 1, by simp at hf; omega⟩
    have hi : l[i]? = some 34 := by rw [← List.head?_drop, hd]; rfl
    rw [unq, if_pos hi]
    simp
  | c :: m, l, i, f, out, rest, hb, hd, hf => by
    obtain ⟨f, rfl⟩ : ∃ g, f = g + 1 := ⟨f - 1, by simp at hf; omega⟩
    have hc : c < 256 := hb c (by simp)
    have hl := form_len c
    have hd' : l.drop i = formN c ++ (m.flatMap formN ++ 34 :: rest) := by rw [hd, List.flatMap_cons, List.append_assoc]
    have hi : l[i]? ≠ some 34 := by
      rw [← List.head?_drop, hd', List.head?_append]
      have := form_head c
      cases h : (formN c).head? with
      | none => rw [List.head?_eq_none_iff] at h; rw [h] at hl; simp at hl
      | some a => rw [h] at this; simpa using this
    have ho := one_of_form hc (m.flatMap formN ++ 34 :: rest)
    rw [← hd'] at ho
    rw [unq, if_neg hi, ho]
    have hn : l.drop (i + (formN c).length) = m.flatMap formN ++ 34 :: rest := by
      rw [← List.drop_drop, hd', List.drop_left]
    have ih := unq_quote m l (i + (formN c).length) f (out ++ [c]) rest (fun x hx => hb x (by simp [hx])) hn (by simp at hf; omega)
    simp only
    rw [ih]
    simp only [List.append_assoc, List.singleton_append, List.flatMap_cons, List.length_append]
    congr 2
    omega
theorem unq_ok : ∀ (f : Nat) (l : List Nat) (i : Nat) (out y : List Nat) (k : Nat), Bytes l → Bytes out → i ≤ l.length → l.take i = 34 :: out.flatMap formN → unq l f i out = (y, k, 0) → l.take k = quoteN y ∧ k ≤ l.length ∧ Bytes y
  | 0, l, i, out, y, k, _, _, _, _, h => by simp [unq] at h
  | f + 1, l, i, out, y, k, hb, ho, hi, ht, h => by
    rw [unq] at h
    by_cases h34 : l[i]? = some 34
    · rw [if_pos h34] at h
      simp only [Prod.mk.injEq] at h
      obtain ⟨rfl, rfl, _⟩ := h
      have hlt := (List.getElem?_eq_some_iff.1 h34).1
      refine ⟨?_, by omega, ho⟩
      rw [List.take_succ_eq_append_getElem hlt, (List.getElem?_eq_some_iff.1 h34).2, ht]
      rfl
    · rw [if_neg h34] at h
      rcases hone : one (l.drop i) with ⟨_ | ⟨c, n⟩, m⟩
      · rw [hone] at h
        simp at h
      · rw [hone] at h
        simp only at h
        obtain ⟨hc, hn, t, hd⟩ := one_some (fun x hx => hb x (List.mem_of_mem_drop hx)) (by rw [List.head?_drop]; exact h34) hone
        have hlen := congrArg List.length hd
        rw [List.length_drop, List.length_append] at hlen
        refine unq_ok f l (i + n) (out ++ [c]) y k hb (bytes_app ho (fun x hx => by simp at hx; omega)) (by omega) ?_ h
        rw [List.take_add, hd, ht, hn, List.take_left]
        simp
theorem unquote_ok {l : List Nat} {y : List Nat} {k : Int} (hb : Bytes l) (h : unquoteN l 0 = (y, k, 0)) : ∃ k' : Nat, k = (k' : Int) ∧ 2 ≤ k' ∧ k' ≤ l.length ∧ l.take k' = quoteN y ∧ Bytes y := by
  unfold unquoteN at h
  rw [if_neg (by omega)] at h
  by_cases h34 : l[(0 : Int).toNat]? ≠ some 34
  · rw [if_pos h34] at h
    simp at h
  · rw [if_neg h34] at h
    have h0 : l[0]? = some 34 := by
      by_cases e : l[0]? = some 34
      · exact e
      · exact absurd e h34
    simp only [Prod.mk.injEq] at h
    obtain ⟨e1, e2, e3⟩ := h
    have hlt := (List.getElem?_eq_some_iff.1 h0).1
    have ht : l.take 1 = 34 :: ([] : List Nat).flatMap formN := by
      rw [show (1 : Nat) = 0 + 1 from rfl, List.take_succ_eq_append_getElem hlt, (List.getElem?_eq_some_iff.1 h0).2]
      rfl
    rcases hu : unq l (l.length + 1) ((0 : Int).toNat + 1) [] with ⟨a, b, c⟩
    rw [hu] at e1 e2 e3
    simp only at e1 e2 e3
    subst e1 e3
    obtain ⟨g1, g2, g3⟩ := unq_ok _ l 1 [] _ b hb bytes_nil (by omega) ht hu
    have hl := congrArg List.length g1
    rw [List.length_take, quoteP_len] at hl
    exact ⟨b, e2.symm, by omega, g2, g1, g3⟩
theorem unquote_quote (a m b : List Nat) (hm : Bytes m) : unquoteN (a ++ quoteN m ++ b) (a.length : Int) = (m, ((a.length + (quoteN m).length : Nat) : Int), 0) := by
  have e : a ++ quoteN m ++ b = a ++ (34 :: (m.flatMap formN ++ 34 :: b)) := by simp [quoteN]
  have hlen : (a ++ quoteN m ++ b).length = a.length + ((m.flatMap formN).length + 2) + b.length := by rw [List.length_append, List.length_append, quoteP_len]
  have h34 : (a ++ quoteN m ++ b)[((a.length : Nat) : Int).toNat]? = some 34 := by
    rw [Int.toNat_natCast, e, List.getElem?_append_right zL]
    simp
  have hd : (a ++ quoteN m ++ b).drop (a.length + 1) = m.flatMap formN ++ 34 :: b := by
    rw [e, ← List.drop_drop, List.drop_left]
    rfl
  have hu := unq_quote m _ (a.length + 1) ((a ++ quoteN m ++ b).length + 1) [] b hm hd (by have := flatP_ge m; omega)
  unfold unquoteN
  rw [if_neg (by omega), if_neg (by rw [h34]; simp), Int.toNat_natCast, hu, quoteP_len]
  simp only [List.nil_append, Prod.mk.injEq, true_and, and_true]
  omega
end Go.Proofs.YtdkoafmgenbkbaaGreatDoor
namespace Go.Proofs.YtdkoafmgenbkbaaGreatDoor
open Go.RowKit
def aheadC (c : Nat) (l : List Nat) : List Nat := l.takeWhile (fun n => n != c)
def behindC (c : Nat) (l : List Nat) : List Nat := (l.dropWhile (fun n => n != c)).drop 1
theorem cut_one (c : UInt8) : ∀ l : List UInt8, Lib.cut l [c] = (l.takeWhile (fun n => n != c), (l.dropWhile (fun n => n != c)).drop 1, l.contains c)
  | [] => by simp [Lib.cut, Lib.index]
  | b :: l => by
    have ih := cut_one c l
    have hge := Lib.index_ge l [c]
    by_cases hb : b = c
    · subst hb
      simp [Lib.cut, Lib.index, List.isPrefixOf]
    · have hb' : (c == b) = false := by simpa using fun e => hb e.symm
      have hb2 : (b != c) = true := by simpa using hb
      have hi : Lib.index (b :: l) [c] = if Lib.index l [c] == -1 then -1 else Lib.index l [c] + 1 := by
        rw [Lib.index]
        simp [List.isPrefixOf, hb']
      have hct : (b :: l).contains c = l.contains c := by rw [List.contains_cons, hb', Bool.false_or]
      rw [List.takeWhile_cons_of_pos (p := fun n => n != c) hb2, List.dropWhile_cons_of_pos (p := fun n => n != c) hb2, hct]
      unfold Lib.cut at ih ⊢
      by_cases hm : Lib.index l [c] = -1
      · have hi2 : Lib.index (b :: l) [c] = -1 := by rw [hi, hm]; rfl
        rw [hm, if_neg (by decide)] at ih
        have e1 := congrArg Prod.fst ih
        have e2 := congrArg (fun x => x.2.1) ih
        have e3 := congrArg (fun x => x.2.2) ih
        simp only at e1 e2 e3
        rw [← e1, ← e2, ← e3, hi2, if_neg (by decide)]
      · have h0 : 0 ≤ Lib.index l [c] := by omega
        rw [if_pos h0] at ih
        have e1 := congrArg Prod.fst ih
        have e2 := congrArg (fun x => x.2.1) ih
        have e3 := congrArg (fun x => x.2.2) ih
        simp only at e1 e2 e3
        have hm' : (Lib.index l [c] == -1) = false := by simpa using hm
        have hi2 : Lib.index (b :: l) [c] = Lib.index l [c] + 1 := by rw [hi, hm']; rfl
        have hn : (Lib.index l [c] + 1).toNat = (Lib.index l [c]).toNat + 1 := by omega
        rw [← e1, ← e2, ← e3, hi2, if_pos (by omega), hn]
        simp [Nat.add_right_comm]
theorem toNat_ne (c : UInt8) (n : Nat) (hc : c.toNat = n) (b : UInt8) : (b.toNat != n) = (b != c) := by
  subst hc
  by_cases h : b = c
  · subst h; simp
  · have h0 : b.toNat ≠ c.toNat := fun e => h (UInt8.toNat_inj.1 e)
    have h1 : (b.toNat != c.toNat) = true := by simpa using h0
    have h2 : (b != c) = true := by simpa using h
    rw [h1, h2]
theorem map_takeW (c : UInt8) : ∀ l : List UInt8, (l.map UInt8.toNat).takeWhile (fun n => n != c.toNat) = (l.takeWhile (fun n => n != c)).map UInt8.toNat
  | [] => rfl
  | b :: l => by
    have h := toNat_ne c _ rfl b
    rw [List.map_cons, List.takeWhile_cons, List.takeWhile_cons]
    rw [h]
    cases (b != c) with
    | true => simp only [if_true, List.map_cons, map_takeW c l]
    | false => rfl
theorem map_dropW (c : UInt8) : ∀ l : List UInt8, (l.map UInt8.toNat).dropWhile (fun n => n != c.toNat) = (l.dropWhile (fun n => n != c)).map UInt8.toNat
  | [] => rfl
  | b :: l => by
    have h := toNat_ne c _ rfl b
    rw [List.map_cons, List.dropWhile_cons, List.dropWhile_cons]
    rw [h]
    cases (b != c) with
    | true => simp only [if_true, map_dropW c l]
    | false => rfl
theorem mk_txt (l : List UInt8) : (⟨l.toArray⟩ : ByteArray) = txt (l.map UInt8.toNat) := by
  have := txt_bs ⟨l.toArray⟩
  rw [← this]
  simp [bs]
theorem cut_txt (s : ByteArray) (c : UInt8) :
    (⟨(Lib.cut s.data.toList [c]).1.toArray⟩ : ByteArray) = txt (aheadC c.toNat (bs s)) ∧ (⟨(Lib.cut s.data.toList [c]).2.1.toArray⟩ : ByteArray) = txt (behindC c.toNat (bs s)) ∧ (Lib.cut s.data.toList [c]).2.2 = (bs s).contains c.toNat := by
  rw [cut_one]
  refine ⟨?_, ?_, ?_⟩
  · rw [mk_txt, ← map_takeW]; rfl
  · rw [mk_txt, List.map_drop, ← map_dropW]; rfl
  · unfold bs
    rw [Bool.eq_iff_iff]
    simp only [List.contains_iff_mem, List.mem_map]
    exact ⟨fun h => ⟨c, h, rfl⟩, fun ⟨b, hb, e⟩ => by rw [← UInt8.toNat_inj.1 e]; exact hb⟩
theorem ahead_behind {c : Nat} : ∀ {l : List Nat}, l.contains c = true → l = aheadC c l ++ c :: behindC c l
  | [], h => by simp at h
  | b :: l, h => by
    unfold aheadC behindC
    by_cases hb : b = c
    · subst hb; simp
    · have hb' : (b != c) = true := by simpa using hb
      have hct : l.contains c = true := by
        rw [List.contains_cons] at h
        have : (c == b) = false := by simpa using fun e => hb e.symm
        simpa [this] using h
      rw [List.takeWhile_cons_of_pos (p := fun n => n != c) hb', List.dropWhile_cons_of_pos (p := fun n => n != c) hb', List.cons_append]
      congr 1
      exact ahead_behind hct
theorem ahead_all {c : Nat} : ∀ {l : List Nat}, l.contains c = false → aheadC c l = l ∧ behindC c l = []
  | [], _ => ⟨rfl, rfl⟩
  | b :: l, h => by
    rw [List.contains_cons] at h
    simp only [Bool.or_eq_false_iff] at h
    have hb' : (b != c) = true := by
      have h1 := h.1
      simp only [beq_eq_false_iff_ne, ne_eq] at h1
      simp only [bne_iff_ne, ne_eq]
      exact fun e => h1 e.symm
    obtain ⟨e1, e2⟩ := ahead_all h.2
    unfold aheadC behindC at *
    rw [List.takeWhile_cons_of_pos (p := fun n => n != c) hb', List.dropWhile_cons_of_pos (p := fun n => n != c) hb', e1]
    exact ⟨rfl, e2⟩
theorem ahead_bytes {c : Nat} {l : List Nat} (h : Bytes l) : Bytes (aheadC c l) ∧ Bytes (behindC c l) :=
  ⟨fun n hn => h n (List.takeWhile_subset _ hn), fun n hn => h n ((List.dropWhile_sublist _).subset (List.mem_of_mem_drop hn))⟩
theorem ahead_len (c : Nat) (l : List Nat) : (aheadC c l).length ≤ l.length ∧ (behindC c l).length ≤ l.length ∧ (l ≠ [] → (behindC c l).length < l.length) := by
  have h1 : (aheadC c l).length ≤ l.length := (List.takeWhile_sublist _).length_le
  have h2 : (l.dropWhile (fun n => n != c)).length ≤ l.length := (List.dropWhile_sublist _).length_le
  refine ⟨h1, ?_, fun hl => ?_⟩
  · unfold behindC; rw [List.length_drop]; omega
  · have : 0 < l.length := List.length_pos_iff.2 hl
    unfold behindC; rw [List.length_drop]; omega
def opN (w : ByteArray) : Int := Lib.idxOfS wordsC w
theorem idx_at (x : ByteArray) : ∀ (zs : List ByteArray) (i : Nat), Lib.idxFromS zs x i = -1 ∨ ∃ k, k < zs.length ∧ Lib.idxFromS zs x i = ((i + k : Nat) : Int) ∧ zs[k]? = some x
  | [], _ => .inl rfl
  | z :: zs, i => by
    unfold Lib.idxFromS
    by_cases h : z = x
    · rw [if_pos h]; exact .inr ⟨0, by simp, by simp, by simp [h]⟩
    · rw [if_neg h]
      rcases idx_at x zs (i + 1) with h1 | ⟨k, h1, h2, h3⟩
      · exact .inl h1
      · exact .inr ⟨k + 1, by simpa using h1, by rw [h2]; congr 1; omega, by simpa using h3⟩
theorem op_word {w : ByteArray} (h : 1 ≤ opN w) : opN w ≤ 40 ∧ wordC (opN w) = w := by
  rcases idx_at w wordsC 0 with h1 | ⟨k, h1, h2, h3⟩
  · unfold opN Lib.idxOfS at h; omega
  · have hk : k < 41 := h1
    have e : opN w = (k : Int) := by unfold opN Lib.idxOfS; rw [h2]; simp
    rw [e] at h ⊢
    refine ⟨by omega, ?_⟩
    unfold wordC
    rw [if_pos (by omega), Int.toNat_natCast, h3]
    rfl
theorem op_of (k : Int) (h1 : 1 ≤ k) (h2 : k ≤ 40) : opN (wordC k) = k := by
  rcases (by omega : k = 1 ∨ k = 2 ∨ k = 3 ∨ k = 4 ∨ k = 5 ∨ k = 6 ∨ k = 7 ∨ k = 8 ∨ k = 9 ∨ k = 10 ∨ k = 11 ∨ k = 12 ∨ k = 13 ∨ k = 14 ∨ k = 15 ∨ k = 16 ∨ k = 17 ∨ k = 18 ∨ k = 19 ∨ k = 20 ∨ k = 21 ∨ k = 22 ∨ k = 23 ∨ k = 24 ∨ k = 25 ∨ k = 26 ∨ k = 27 ∨ k = 28 ∨ k = 29 ∨ k = 30 ∨ k = 31 ∨ k = 32 ∨ k = 33 ∨ k = 34 ∨ k = 35 ∨ k = 36 ∨ k = 37 ∨ k = 38 ∨ k = 39 ∨ k = 40) with rfl | rfl | rfl | rfl | rfl | rfl | rfl | rfl | rfl | rfl | rfl | rfl | rfl | rfl | rfl | rfl | rfl | rfl | rfl | rfl | rfl | rfl | rfl | rfl | rfl | rfl | rfl | rfl | rfl | rfl | rfl | rfl | rfl | rfl | rfl | rfl | rfl | rfl | rfl | rfl
  all_goals decide +kernel
theorem op_range (w : ByteArray) : -1 ≤ opN w ∧ opN w ≤ 40 := by
  rcases idx_at w wordsC 0 with h1 | ⟨k, h1, h2, h3⟩
  · unfold opN Lib.idxOfS; omega
  · have hk : k < 41 := h1
    unfold opN Lib.idxOfS
    rw [h2]
    omega
def putN (op : Int) (rest : List Nat) : Option Ins :=
  match hasN op with
  | 0 => some ⟨op, 0, 0, ⟨#[]⟩⟩
  | 2 => (intN rest).map fun n => ⟨op, 0, n, ⟨#[]⟩⟩
  | 3 => if (unquoteN rest 0).2.2 = 0 ∧ (unquoteN rest 0).2.1 = rest.length then some ⟨op, 0, 0, txt (unquoteN rest 0).1⟩ else none
  | 4 => some ⟨op, 0, 0, txt rest⟩
  | _ => (intN rest).map fun n => ⟨op, n, 0, ⟨#[]⟩⟩
def readN (l : List Nat) : Option Ins :=
  if 1 ≤ opN (txt (aheadC 32 l)) ∧ (l.contains 32 = true ↔ hasN (opN (txt (aheadC 32 l))) ≠ 0) then (putN (opN (txt (aheadC 32 l))) (behindC 32 l)).bind fun x => if plainN x = true then some x else none else none
def laysN (op : Int) (rest : List Nat) : Ins :=
  match hasN op with
  | 0 => ⟨op, 0, 0, ⟨#[]⟩⟩
  | 2 => ⟨op, 0, (intN rest).getD 0, ⟨#[]⟩⟩
  | 3 => ⟨op, 0, 0, txt (unquoteN rest 0).1⟩
  | 4 => ⟨op, 0, 0, txt rest⟩
  | _ => ⟨op, (intN rest).getD 0, 0, ⟨#[]⟩⟩
theorem lays_op (op : Int) (rest : List Nat) : (laysN op rest).op = op := by
  unfold laysN; split <;> rfl
theorem hasN_six (op : Int) : hasN op = 0 ∨ hasN op = 1 ∨ hasN op = 2 ∨ hasN op = 3 ∨ hasN op = 4 ∨ hasN op = 5 := by
  unfold hasN
  repeat' split
  all_goals simp
theorem line_app {x : Ins} : lineC x = bs (wordC x.op) ++ (match hasN x.op with | 1 => 32 :: showN x.arg | 5 => 32 :: showN x.arg | 2 => 32 :: showN x.int | 3 => 32 :: quoteN (bs x.text) | 4 => 32 :: bs x.text | _ => []) := rfl
theorem word_no32 (op : Int) (h1 : 1 ≤ op) (h2 : op ≤ 40) : (bs (wordC op)).contains 32 = false := by
  rcases (by omega : op = 1 ∨ op = 2 ∨ op = 3 ∨ op = 4 ∨ op = 5 ∨ op = 6 ∨ op = 7 ∨ op = 8 ∨ op = 9 ∨ op = 10 ∨ op = 11 ∨ op = 12 ∨ op = 13 ∨ op = 14 ∨ op = 15 ∨ op = 16 ∨ op = 17 ∨ op = 18 ∨ op = 19 ∨ op = 20 ∨ op = 21 ∨ op = 22 ∨ op = 23 ∨ op = 24 ∨ op = 25 ∨ op = 26 ∨ op = 27 ∨ op = 28 ∨ op = 29 ∨ op = 30 ∨ op = 31 ∨ op = 32 ∨ op = 33 ∨ op = 34 ∨ op = 35 ∨ op = 36 ∨ op = 37 ∨ op = 38 ∨ op = 39 ∨ op = 40) with rfl | rfl | rfl | rfl | rfl | rfl | rfl | rfl | rfl | rfl | rfl | rfl | rfl | rfl | rfl | rfl | rfl | rfl | rfl | rfl | rfl | rfl | rfl | rfl | rfl | rfl | rfl | rfl | rfl | rfl | rfl | rfl | rfl | rfl | rfl | rfl | rfl | rfl | rfl | rfl
  all_goals decide +kernel
theorem read_law {l : List Nat} (hb : Bytes l) (h1 : 1 ≤ opN (txt (aheadC 32 l))) :
    ((plainN (laysN (opN (txt (aheadC 32 l))) (behindC 32 l)) = true ∧ lineC (laysN (opN (txt (aheadC 32 l))) (behindC 32 l)) = l) → readN l = some (laysN (opN (txt (aheadC 32 l))) (behindC 32 l))) ∧
    (¬ (plainN (laysN (opN (txt (aheadC 32 l))) (behindC 32 l)) = true ∧ lineC (laysN (opN (txt (aheadC 32 l))) (behindC 32 l)) = l) → readN l = none) := by
  obtain ⟨op, hop⟩ : ∃ x, opN (txt (aheadC 32 l)) = x := ⟨_, rfl⟩
  obtain ⟨rest, hrest⟩ : ∃ x, behindC 32 l = x := ⟨_, rfl⟩
  have hw := op_word h1
  rw [hop] at h1 hw
  have hwb : bs (wordC op) = aheadC 32 l := by rw [hw.2, bs_txt (ahead_bytes hb).1]
  have hbr : Bytes rest := by rw [← hrest]; exact (ahead_bytes hb).2
  unfold readN
  rw [hop, hrest]
  -- a line without a blank
  rcases hm : l.contains 32 with _ | _
  · obtain ⟨e1, e2⟩ := ahead_all hm
    rw [e1] at hwb
    rw [e2] at hrest
    subst hrest
    by_cases h0 : hasN op = 0
    · have hx : laysN op [] = ⟨op, 0, 0, ⟨#[]⟩⟩ := by unfold laysN; simp only [h0]
      have hl : lineC ⟨op, 0, 0, ⟨#[]⟩⟩ = l := by rw [line_app]; simp only [h0]; rw [hwb, List.append_nil]
      have hp : putN op [] = some ⟨op, 0, 0, ⟨#[]⟩⟩ := by unfold putN; simp only [h0]
      rw [hx, hp, if_pos ⟨h1, by simp [h0]⟩]
      simp only [Option.bind_some, hl, and_true]
      exact ⟨fun h => by rw [if_pos h], fun h => by rw [if_neg h]⟩
    · rw [if_neg (fun h => by have := h.2.2 h0; simp at this)]
      refine ⟨fun h => ?_, fun _ => by first | rfl | trivial⟩
      exfalso
      have h3 := congrArg (fun x => x.contains 32) h.2
      simp only [hm] at h3
      rw [line_app, lays_op] at h3
      rcases hasN_six op with e | e | e | e | e | e
      · exact h0 e
      all_goals rw [e] at h3; simp at h3
  · have hl := ahead_behind hm
    rw [← hwb, hrest] at hl
    by_cases h0 : hasN op = 0
    · rw [if_neg (fun h => h.2.1 rfl h0)]
      refine ⟨fun h => ?_, fun _ => by first | rfl | trivial⟩
      exfalso
      have h3 := congrArg (fun x => x.contains 32) h.2
      simp only [hm] at h3
      rw [line_app, lays_op, h0] at h3
      have := word_no32 op h1 hw.1
      simp only [List.append_nil] at h3
      rw [this] at h3
      cases h3
    · rw [if_pos ⟨h1, ⟨fun _ => h0, fun _ => rfl⟩⟩]
      have key : ∀ y : List Nat, bs (wordC op) ++ 32 :: y = l ↔ y = rest := fun y => by
        constructor
        · intro h
          rw [hl] at h
          have := List.append_cancel_left h
          injection this
        · rintro rfl; exact hl.symm
      have bind1 : ∀ x : Ins, (plainN x = true → (some x).bind (fun x => if plainN x = true then some x else none) = some x) ∧ (¬ plainN x = true → (some x).bind (fun x => if plainN x = true then some x else none) = none) := fun x =>
        ⟨fun h => by simp [h], fun h => by simp [h]⟩
      rcases hasN_six op with e | e | e | e | e | e
      · exact absurd e h0
      · -- a count
        have hx : laysN op rest = ⟨op, (intN rest).getD 0, 0, ⟨#[]⟩⟩ := by unfold laysN; simp only [e]
        have hp : putN op rest = (intN rest).map fun n => ⟨op, n, 0, ⟨#[]⟩⟩ := by unfold putN; simp only [e]
        have hll : ∀ n, (lineC ⟨op, n, 0, ⟨#[]⟩⟩ = l ↔ showN n = rest) := fun n => by rw [line_app]; simp only [e]; exact key _
        rw [hx, hp, hll]
        cases hi : intN rest with
        | some n =>
          have h3 := (intN_some hi).2.2.1
          simp only [Option.getD_some, Option.map_some, h3, and_true]
          exact bind1 _
        | none =>
          simp only [Option.getD_none, Option.map_none, Option.bind_none]
          refine ⟨fun h => ?_, fun _ => by first | rfl | trivial⟩
          have h4 : intN (showN 0) = some 0 := intN_show (by omega) (by omega)
          rw [h.2, hi] at h4
          cases h4
      · have hx : laysN op rest = ⟨op, 0, (intN rest).getD 0, ⟨#[]⟩⟩ := by unfold laysN; simp only [e]
        have hp : putN op rest = (intN rest).map fun n => ⟨op, 0, n, ⟨#[]⟩⟩ := by unfold putN; simp only [e]
        have hll : ∀ n, (lineC ⟨op, 0, n, ⟨#[]⟩⟩ = l ↔ showN n = rest) := fun n => by rw [line_app]; simp only [e]; exact key _
        rw [hx, hp, hll]
        cases hi : intN rest with
        | some n =>
          have h3 := (intN_some hi).2.2.1
          simp only [Option.getD_some, Option.map_some, h3, and_true]
          exact bind1 _
        | none =>
          simp only [Option.getD_none, Option.map_none, Option.bind_none]
          refine ⟨fun h => ?_, fun _ => by first | rfl | trivial⟩
          have h4 : intN (showN 0) = some 0 := intN_show (by omega) (by omega)
          rw [h.2, hi] at h4
          cases h4
      · -- a text
        have hx : laysN op rest = ⟨op, 0, 0, txt (unquoteN rest 0).1⟩ := by unfold laysN; simp only [e]
        have hp : putN op rest = if (unquoteN rest 0).2.2 = 0 ∧ (unquoteN rest 0).2.1 = rest.length then some ⟨op, 0, 0, txt (unquoteN rest 0).1⟩ else none := by unfold putN; simp only [e]
        rw [hx, hp]
        rcases hu : unquoteN rest 0 with ⟨y, k, er⟩
        have hll : ∀ t, (lineC ⟨op, 0, 0, t⟩ = l ↔ quoteN (bs t) = rest) := fun t => by rw [line_app]; simp only [e]; exact key _
        rw [hll]
        simp only
        by_cases hok : er = 0 ∧ k = rest.length
        · obtain ⟨rfl, rfl⟩ := hok
          obtain ⟨k', hk, _, _, ht, hy⟩ := unquote_ok hbr hu
          have hk' : k' = rest.length := by omega
          subst hk'
          rw [List.take_length] at ht
          rw [if_pos ⟨rfl, rfl⟩, bs_txt hy]
          simp only [← ht, and_true]
          exact bind1 _
        · rw [if_neg hok]
          refine ⟨fun h => ?_, fun _ => by first | rfl | trivial⟩
          exfalso
          have hyb : Bytes (bs (txt y)) := bs_bytes _
          have h4 := unquote_quote [] (bs (txt y)) [] hyb
          simp only [List.nil_append, List.append_nil, List.length_nil] at h4
          rw [h.2] at h4
          have h5 : unquoteN rest 0 = (bs (txt y), ((0 + rest.length : Nat) : Int), 0) := h4
          rw [hu] at h5
          injection h5 with _ h5
          injection h5 with h6 h7
          exact hok ⟨h7, by rw [h6]; simp⟩
      · have hx : laysN op rest = ⟨op, 0, 0, txt rest⟩ := by unfold laysN; simp only [e]
        have hp : putN op rest = some ⟨op, 0, 0, txt rest⟩ := by unfold putN; simp only [e]
        have hll : lineC ⟨op, 0, 0, txt rest⟩ = l := by rw [line_app]; simp only [e]; rw [bs_txt hbr]; exact (key _).2 rfl
        rw [hx, hp, hll]
        simp only [and_true]
        exact bind1 _
      · have hx : laysN op rest = ⟨op, (intN rest).getD 0, 0, ⟨#[]⟩⟩ := by unfold laysN; simp only [e]
        have hp : putN op rest = (intN rest).map fun n => ⟨op, n, 0, ⟨#[]⟩⟩ := by unfold putN; simp only [e]
        have hll : ∀ n, (lineC ⟨op, n, 0, ⟨#[]⟩⟩ = l ↔ showN n = rest) := fun n => by rw [line_app]; simp only [e]; exact key _
        rw [hx, hp, hll]
        cases hi : intN rest with
        | some n =>
          have h3 := (intN_some hi).2.2.1
          simp only [Option.getD_some, Option.map_some, h3, and_true]
          exact bind1 _
        | none =>
          simp only [Option.getD_none, Option.map_none, Option.bind_none]
          refine ⟨fun h => ?_, fun _ => by first | rfl | trivial⟩
          have h4 : intN (showN 0) = some 0 := intN_show (by omega) (by omega)
          rw [h.2, hi] at h4
          cases h4
def linesN : Nat → List Nat → List Ins → List Ins ⊕ Nat
  | 0, _, out => .inl out
  | f + 1, l, out => if l = [] then .inl out else
    match readN (aheadC 10 l) with
    | some x => if l.contains 10 = true then linesN f (behindC 10 l) (out ++ [x]) else .inr out.length
    | none => .inr out.length
theorem lines_more : ∀ (f g : Nat) (l : List Nat) (out : List Ins), l.length ≤ f → l.length ≤ g → linesN f l out = linesN g l out
  | 0, g, l, out, h1, h2 => by
    have : l = [] := List.eq_nil_of_length_eq_zero (by omega)
    subst this
    cases g <;> simp [linesN]
  | f + 1, 0, l, out, h1, h2 => by
    have : l = [] := List.eq_nil_of_length_eq_zero (by omega)
    subst this
    simp [linesN]
  | f + 1, g + 1, l, out, h1, h2 => by
    unfold linesN
    by_cases hl : l = []
    · rw [if_pos hl, if_pos hl]
    · rw [if_neg hl, if_neg hl]
      have := (ahead_len 10 l).2.2 hl
      cases readN (aheadC 10 l) with
      | none => rfl
      | some x =>
        show (if _ then _ else _) = (if _ then _ else _)
        rw [lines_more f g (behindC 10 l) _ (by omega) (by omega)]
def parseC (l : List Nat) : List Ins × Nat × Nat :=
  if 1048576 < l.length then ([], 0, 3) else
    match linesN l.length l [] with
    | .inr k => ([], k, 110)
    | .inl c => if (rightC c).2 ≠ 0 then ([], (rightC c).1, (rightC c).2) else (c, 0, 0)
end Go.Proofs.YtdkoafmgenbkbaaGreatDoor
