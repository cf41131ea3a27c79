/- The reference's Int answers a text's number, or none. -/
import Derived.Test.YtdkoafmgenbkbaaDoorMUnq
namespace Go.Proofs.YtdkoafmgenbkbaaDoor
set_option linter.unusedSimpArgs false
set_option linter.unusedVariables false
open Go.RowKit

theorem intN_neg (D : List Nat) : intN (45 :: D) = if D = [] ∨ 19 < D.length ∨ D.head? = some 48 then none else if Digits D then (if 9223372036854775808 < val 0 D then none else some (-(val 0 D : Int))) else none := by
  unfold intN
  rw [if_pos (show (45 :: D).head? = some 45 from rfl)]
  rfl
theorem intN_pos (l : List Nat) (h : l.head? ≠ some 45) : intN l = if l = [] ∨ 19 < l.length ∨ (l.head? = some 48 ∧ 1 < l.length) then none else if Digits l then (if 9223372036854775807 < val 0 l then none else some (val 0 l : Int)) else none := by
  unfold intN
  rw [if_neg h]
theorem val_lt : ∀ (l : List Nat) (a n : Nat), Digits l → a < 10 ^ n → val a l < 10 ^ (n + l.length)
  | [], a, n, _, h => by simpa [val] using h
  | c :: l, a, n, hd, h => by
    have hc := hd c (by simp)
    have := val_lt l (10 * a + (c - 48)) (n + 1) (fun x hx => hd x (by simp [hx])) (by rw [Nat.pow_succ]; omega)
    have e : n + (c :: l).length = n + 1 + l.length := by simp; omega
    rw [e]
    exact this
theorem val_take {l : List Nat} {k c : Nat} (h : l[k]? = some c) : val 0 (l.take (k + 1)) = 10 * val 0 (l.take k) + (c - 48) := by
  have hk := (List.getElem?_eq_some_iff.1 h).1
  rw [List.take_succ_eq_append_getElem hk, (List.getElem?_eq_some_iff.1 h).2, val_app]
  rfl
theorem val_head {l : List Nat} (h1 : l ≠ []) (hd : Digits l) (h2 : l.head? ≠ some 48) : 0 < val 0 l := by
  rcases Nat.eq_zero_or_pos (val 0 l) with h0 | h0
  · have := dec_val _ l rfl h1 hd (Or.inl h2)
    rw [h0, dec_small (by omega)] at this
    rw [← this] at h2
    simp at h2
  · exact h0

set_option maxHeartbeats 4000000 in
set_option maxRecDepth 100000 in
theorem ref_int (s : ByteArray) (hs : s.size ≤ 281474976710656) (w : World) : Calls Tryd.prog 64 #[.string s] w fun e w' => e = .returned (intV (intN (bs s))) ∧ Below w.heap.size w w' := by
  by_cases h45 : (bs s)[0]? = some 45
  · have hz : 0 < s.size := by rw [← bs_len]; exact (List.getElem?_eq_some_iff.1 h45).1
    have i0 := fun W => index_txt W 9 Tryd.underlying9 h45 .i64 0 rfl
    obtain ⟨dS, hE⟩ : ∃ d, s.extract 1 s.size = d := ⟨_, rfl⟩
    obtain ⟨D, hbs⟩ : ∃ D, bs dS = D := ⟨_, rfl⟩
    have hsD : bs s = 45 :: D := by
      rw [← hbs, ← hE, bs_extract, List.take_of_length_le (by rw [bs_len]; exact Nat.le_refl _)]
      cases h : bs s with
      | nil => rw [h] at h45; simp at h45
      | cons b t => rw [h] at h45; simp at h45; subst h45; rfl
    have hint := (congrArg intN hsD).trans (intN_neg D)
    obtain ⟨m, hm⟩ : ∃ m, D.length = m := ⟨_, rfl⟩
    have hds : dS.size = m := by rw [← bs_len, hbs, hm]
    have hDb : Bytes D := by rw [← hbs]; exact bs_bytes dS
    have hget : ∀ k, k < m → ∃ c, D[k]? = some c ∧ c < 256 := fun k hk => by
      have := get_bs (s := dS) (k := k) (by omega)
      rwa [hbs] at this
    clear hsD
    have hN : intN (bs s) = if D = [] ∨ 19 < D.length ∨ D.head? = some 48 then none else if Digits D then (if 9223372036854775808 < val 0 D then none else some (-(val 0 D : Int))) else none := hint
    clear hint
    by_cases k1 : m = 0
    · subst k1
      have hD : D = [] := List.eq_nil_of_length_eq_zero hm
      have HN := Lib.hid (hN.trans (if_pos (Or.inl hD)))
      clear hN hD hm hDb
      go_enter Tryd.func64, Tryd.ntmps64
      go_wp2_with fail
      go_ret2
      exact ⟨by rw [HN.out]; rfl, Below.refl _ _⟩
    have k1' : ((m : Int) == 0) = false := by simp; omega
    obtain ⟨c0, hc0, c0256⟩ := hget 0 (by omega)
    have j0 := fun W => index_txt W 9 Tryd.underlying9 (hbs.symm ▸ hc0) .i64 0 rfl
    have hhead : D.head? = some c0 := by rw [List.head?_eq_getElem?]; exact hc0
    have J0 := Lib.hid j0
    clear j0
    by_cases k2 : 19 < m
    · have HN := Lib.hid (hN.trans (if_pos (Or.inr (Or.inl (by rw [hm]; exact k2)))))
      have j0 := J0.out
      clear hN hm hDb hhead hc0 hbs
      go_enter Tryd.func64, Tryd.ntmps64
      go_wp2_with fail
      go_ret2
      exact ⟨by rw [HN.out]; rfl, Below.refl _ _⟩
    have k2' : decide (19 < (m : Int)) = false := by simp; omega
    by_cases k3 : c0 = 48
    · subst k3
      have HN := Lib.hid (hN.trans (if_pos (Or.inr (Or.inr hhead))))
      have j0 := J0.out
      clear hN hm hDb hhead hc0 hbs
      go_enter Tryd.func64, Tryd.ntmps64
      go_wp2_with fail
      go_ret2
      exact ⟨by rw [HN.out]; rfl, Below.refl _ _⟩
    have k3' : ((c0 : Int) == 48) = false := by simp; omega
    have hcnd : ¬ (D = [] ∨ 19 < D.length ∨ D.head? = some 48) := by
      intro hx
      rcases hx with hx | hx | hx
      · rw [hx] at hm; simp at hm; exact k1 hm.symm
      · omega
      · rw [hhead] at hx; injection hx with hx; exact k3 hx
    have hposv : Digits D → 0 < val 0 D := fun hd => val_head (fun e => by rw [e] at hm; simp at hm; exact k1 hm.symm) hd (by rw [hhead]; simpa using k3)
    have Hpos := Lib.hid hposv
    clear hposv
    rw [if_neg hcnd] at hN
    clear hcnd hhead hc0
    have HNN := Lib.hid hN
    clear hN
    have HDb := Lib.hid hDb
    have Hm := Lib.hid hm
    have Hget := Lib.hid hget
    have Hbs := Lib.hid hbs
    clear hDb hm hget hbs
    have j0 := J0.out
    go_enter Tryd.func64, Tryd.ntmps64
    go_wp2_with fail
    go_loopw [7, 8] (fun nv i wr => ∃ (k : Nat) (a : Int), k ≤ m ∧ i = .int .i64 k ∧ nv = .int .u64 a ∧ 0 ≤ a ∧ a ≤ 9999999999999999999 ∧ Hid (a = (val 0 (D.take k) : Int) ∧ Digits (D.take k)) ∧ Quiet w wr) (fun _ i _ => m - (intOf i).toNat)
    case atStart => exact ⟨0, 0, by omega, rfl, rfl, by omega, by omega, ⟨by simp [val], fun c hc => by simp at hc⟩, Quiet.refl _⟩
    case round =>
      obtain ⟨k, a, hk, rfl, rfl, ha0, ha1, hinv, hq⟩ := hrel
      clear j0
      by_cases hlt : k < m
      · obtain ⟨c, hc, c256⟩ := Hget.out k hlt
        have i1 := fun W => index_txt W 9 Tryd.underlying9 (Hbs.out.symm ▸ hc) .i64 _ rfl
        have hkl := (List.getElem?_eq_some_iff.1 hc).1
        by_cases hcd : 48 ≤ c ∧ c ≤ 57
        · have HA := Lib.hid (fun W => among_any c ⟨#[48, 49, 50, 51, 52, 53, 54, 55, 56, 57]⟩ (by decide) W)
          have hmf : decide (c ∈ bs ⟨#[48, 49, 50, 51, 52, 53, 54, 55, 56, 57]⟩) = true := by rw [mem_figs]; simpa using hcd
          rw [hmf] at HA
          clear hmf
          have hvt := val_take hc
          have hdg : Digits (D.take (k + 1)) := by
            rw [List.take_succ_eq_append_getElem hkl, (List.getElem?_eq_some_iff.1 hc).2]
            intro x hx
            rcases List.mem_append.1 hx with hx | hx
            · exact hinv.out.2 x hx
            · simp at hx; omega
          have hlim : a ≤ 999999999999999999 := by
            have h1 := val_lt (D.take k) 0 0 hinv.out.2 (by omega)
            have h2 : (D.take k).length ≤ 18 := by have := List.length_take_le k D; omega
            have h3 : 10 ^ (0 + (D.take k).length) ≤ 10 ^ 18 := Nat.pow_le_pow_right (by omega) (by omega)
            have := hinv.out.1
            omega
          have hnew : 10 * a + ((c : Int) - 48) = (val 0 (D.take (k + 1)) : Int) := by rw [hvt, hinv.out.1]; omega
          have HV := Lib.hid (And.intro hnew hdg)
          obtain ⟨cc1, cc2⟩ := hcd
          clear hvt hdg hnew hc hkl
          go_wp2_with (go_at_call 67; refine (HA.out _).mono ?_; rintro e w1 ⟨rfl, q1⟩)
          go_roundw
          case rel => exact ⟨k + 1, 10 * a + ((c : Int) - 48), by omega, by go_num, by first | rfl | go_num, by omega, by omega, HV.out, hq.trans q1⟩
          case measure => simp [intOf]; omega
        · have HA := Lib.hid (fun W => among_any c ⟨#[48, 49, 50, 51, 52, 53, 54, 55, 56, 57]⟩ (by decide) W)
          have hmf : decide (c ∈ bs ⟨#[48, 49, 50, 51, 52, 53, 54, 55, 56, 57]⟩) = false := by rw [mem_figs]; simpa using hcd
          rw [hmf] at HA
          clear hmf
          have hnd : ¬ Digits D := fun hd => hcd (hd c (List.mem_iff_getElem?.2 ⟨k, hc⟩))
          have HN := Lib.hid (HNN.out.trans (if_neg hnd))
          clear hnd hc hkl hcd
          go_wp2_with (go_at_call 67; refine (HA.out _).mono ?_; rintro e w1 ⟨rfl, q1⟩)
          go_ret2
          exact ⟨by rw [HN.out]; rfl, (hq.trans q1).below _⟩
      · have hdec : decide (k < m) = false := by simp; omega
        have hall : D.take k = D := List.take_of_length_le (by rw [Hm.out]; omega)
        have hfin := hinv.out
        rw [hall] at hfin
        obtain ⟨hav, hdg⟩ := hfin
        have hN2 := HNN.out.trans (if_pos hdg)
        have hp : 1 ≤ a := by have := Hpos.out hdg; omega
        by_cases hbig : 9223372036854775808 < val 0 D
        · have HN := Lib.hid (hN2.trans (if_pos hbig))
          have hb1 : 9223372036854775808 < a := by omega
          clear hN2 hbig hav hdg hall
          go_wp2_with fail
          go_ret2
          exact ⟨by rw [HN.out]; rfl, hq.below _⟩
        · have HN := Lib.hid (hN2.trans (if_neg hbig))
          have hb1 : a ≤ 9223372036854775808 := by omega
          have Hav := Lib.hid hav
          clear hN2 hbig hav hdg hall
          go_wp2_with fail
          go_ret2
          refine ⟨?_, hq.below _⟩
          rw [HN.out, ← Hav.out]
          show Ending.returned (Value.tuple #[_, _]) = Ending.returned (Value.tuple #[_, _])
          first | rfl | (congr 3; first | rfl | go_num | (congr 1; omega))
  · have hb : (bs s).head? ≠ some 45 := by rw [List.head?_eq_getElem?]; exact h45
    obtain ⟨D, hbs⟩ : ∃ D, bs s = D := ⟨_, rfl⟩
    have hint := (congrArg intN hbs).trans (intN_pos D (hbs ▸ hb))
    obtain ⟨m, hm⟩ : ∃ m, D.length = m := ⟨_, rfl⟩
    have hds : s.size = m := by rw [← bs_len, hbs, hm]
    have hDb : Bytes D := by rw [← hbs]; exact bs_bytes s
    have hget : ∀ k, k < m → ∃ c, D[k]? = some c ∧ c < 256 := fun k hk => by
      have := get_bs (s := s) (k := k) (by omega)
      rwa [hbs] at this
    have hfirst : ∀ c0 : Nat, D[0]? = some c0 → ((c0 : Int) == 45) = false := by
      intro c0 h
      rw [hbs] at h45
      have : c0 ≠ 45 := fun e => h45 (by rw [h, e])
      simp; omega
    have hN : intN (bs s) = if D = [] ∨ 19 < D.length ∨ (D.head? = some 48 ∧ 1 < D.length) then none else if Digits D then (if 9223372036854775807 < val 0 D then none else some (val 0 D : Int)) else none := hint
    clear hint
    by_cases k1 : m = 0
    · subst k1
      have hD : D = [] := List.eq_nil_of_length_eq_zero hm
      have HN := Lib.hid (hN.trans (if_pos (Or.inl hD)))
      clear hN hD hm hDb
      go_enter Tryd.func64, Tryd.ntmps64
      go_wp2_with fail
      go_ret2
      exact ⟨by rw [HN.out]; rfl, Below.refl _ _⟩
    have k1' : ((m : Int) == 0) = false := by simp; omega
    obtain ⟨c0, hc0, c0256⟩ := hget 0 (by omega)
    have j0 := fun W => index_txt W 9 Tryd.underlying9 (hbs.symm ▸ hc0) .i64 0 rfl
    have c045 := hfirst c0 hc0
    have hhead : D.head? = some c0 := by rw [List.head?_eq_getElem?]; exact hc0
    have J0 := Lib.hid j0
    clear j0
    by_cases k2 : 19 < m
    · have HN := Lib.hid (hN.trans (if_pos (Or.inr (Or.inl (by rw [hm]; exact k2)))))
      have j0 := J0.out
      clear hN hm hDb hhead hc0 hbs
      go_enter Tryd.func64, Tryd.ntmps64
      go_wp2_with fail
      go_ret2
      exact ⟨by rw [HN.out]; rfl, Below.refl _ _⟩
    have k2' : decide (19 < (m : Int)) = false := by simp; omega
    by_cases k3 : c0 = 48 ∧ 1 < m
    · obtain ⟨rfl, k3⟩ := k3
      have HN := Lib.hid (hN.trans (if_pos (Or.inr (Or.inr ⟨hhead, by rw [hm]; exact k3⟩))))
      have j0 := J0.out
      clear hN hm hDb hhead hc0 hbs
      go_enter Tryd.func64, Tryd.ntmps64
      go_wp2_with fail
      go_ret2
      exact ⟨by rw [HN.out]; rfl, Below.refl _ _⟩
    have hcnd : ¬ (D = [] ∨ 19 < D.length ∨ (D.head? = some 48 ∧ 1 < D.length)) := by
      intro hx
      rcases hx with hx | hx | ⟨hx, hy⟩
      · rw [hx] at hm; simp at hm; exact k1 hm.symm
      · omega
      · rw [hhead] at hx; injection hx with hx; exact k3 ⟨hx, by omega⟩
    rw [if_neg hcnd] at hN
    clear hcnd hhead hc0
    have k3' : (((c0 : Int) == 48) = false) ∨ (c0 = 48 ∧ m = 1) := by
      by_cases e : c0 = 48
      · exact Or.inr ⟨e, by omega⟩
      · left; simp; omega
    clear k3
    have HNN := Lib.hid hN
    clear hN
    have HDb := Lib.hid hDb
    have Hm := Lib.hid hm
    have Hget := Lib.hid hget
    have Hbs := Lib.hid hbs
    clear hDb hm hget hbs
    rcases k3' with k3' | ⟨rfl, k3'⟩
    all_goals
      have j0 := J0.out
      go_enter Tryd.func64, Tryd.ntmps64
      go_wp2_with fail
      go_loopw [7, 8] (fun nv i wr => ∃ (k : Nat) (a : Int), k ≤ m ∧ i = .int .i64 k ∧ nv = .int .u64 a ∧ 0 ≤ a ∧ a ≤ 9999999999999999999 ∧ Hid (a = (val 0 (D.take k) : Int) ∧ Digits (D.take k)) ∧ Quiet w wr) (fun _ i _ => m - (intOf i).toNat)
      case atStart => exact ⟨0, 0, by omega, rfl, rfl, by omega, by omega, ⟨by simp [val], fun c hc => by simp at hc⟩, Quiet.refl _⟩
      case round =>
        obtain ⟨k, a, hk, rfl, rfl, ha0, ha1, hinv, hq⟩ := hrel
        clear j0
        by_cases hlt : k < m
        · obtain ⟨c, hc, c256⟩ := Hget.out k hlt
          have i1 := fun W => index_txt W 9 Tryd.underlying9 (Hbs.out.symm ▸ hc) .i64 _ rfl
          have hkl := (List.getElem?_eq_some_iff.1 hc).1
          by_cases hcd : 48 ≤ c ∧ c ≤ 57
          · have HA := Lib.hid (fun W => among_any c ⟨#[48, 49, 50, 51, 52, 53, 54, 55, 56, 57]⟩ (by decide) W)
            have hmf : decide (c ∈ bs ⟨#[48, 49, 50, 51, 52, 53, 54, 55, 56, 57]⟩) = true := by rw [mem_figs]; simpa using hcd
            rw [hmf] at HA
            clear hmf
            have hvt := val_take hc
            have hdg : Digits (D.take (k + 1)) := by
              rw [List.take_succ_eq_append_getElem hkl, (List.getElem?_eq_some_iff.1 hc).2]
              intro x hx
              rcases List.mem_append.1 hx with hx | hx
              · exact hinv.out.2 x hx
              · simp at hx; omega
            have hlim : a ≤ 999999999999999999 := by
              have h1 := val_lt (D.take k) 0 0 hinv.out.2 (by omega)
              have h2 : (D.take k).length ≤ 18 := by have := List.length_take_le k D; omega
              have h3 : 10 ^ (0 + (D.take k).length) ≤ 10 ^ 18 := Nat.pow_le_pow_right (by omega) (by omega)
              have := hinv.out.1
              omega
            have hnew : 10 * a + ((c : Int) - 48) = (val 0 (D.take (k + 1)) : Int) := by rw [hvt, hinv.out.1]; omega
            have HV := Lib.hid (And.intro hnew hdg)
            obtain ⟨cc1, cc2⟩ := hcd
            clear hvt hdg hnew hc hkl
            go_wp2_with (go_at_call 67; refine (HA.out _).mono ?_; rintro e w1 ⟨rfl, q1⟩)
            go_roundw
            case rel => exact ⟨k + 1, 10 * a + ((c : Int) - 48), by omega, by go_num, by first | rfl | go_num, by omega, by omega, HV.out, hq.trans q1⟩
            case measure => simp [intOf]; omega
          · have HA := Lib.hid (fun W => among_any c ⟨#[48, 49, 50, 51, 52, 53, 54, 55, 56, 57]⟩ (by decide) W)
            have hmf : decide (c ∈ bs ⟨#[48, 49, 50, 51, 52, 53, 54, 55, 56, 57]⟩) = false := by rw [mem_figs]; simpa using hcd
            rw [hmf] at HA
            clear hmf
            have hnd : ¬ Digits D := fun hd => hcd (hd c (List.mem_iff_getElem?.2 ⟨k, hc⟩))
            have HN := Lib.hid (HNN.out.trans (if_neg hnd))
            clear hnd hc hkl hcd
            go_wp2_with (go_at_call 67; refine (HA.out _).mono ?_; rintro e w1 ⟨rfl, q1⟩)
            go_ret2
            exact ⟨by rw [HN.out]; rfl, (hq.trans q1).below _⟩
        · have hdec : decide (k < m) = false := by simp; omega
          have hall : D.take k = D := List.take_of_length_le (by rw [Hm.out]; omega)
          have hfin := hinv.out
          rw [hall] at hfin
          obtain ⟨hav, hdg⟩ := hfin
          have hN2 := HNN.out.trans (if_pos hdg)
          by_cases hbig : 9223372036854775807 < val 0 D
          · have HN := Lib.hid (hN2.trans (if_pos hbig))
            have hb1 : 9223372036854775807 < a := by omega
            clear hN2 hbig hav hdg hall
            go_wp2_with fail
            go_ret2
            exact ⟨by rw [HN.out]; rfl, hq.below _⟩
          · have HN := Lib.hid (hN2.trans (if_neg hbig))
            have hb1 : a ≤ 9223372036854775807 := by omega
            have Hav := Lib.hid hav
            clear hN2 hbig hav hdg hall
            go_wp2_with fail
            go_ret2
            refine ⟨?_, hq.below _⟩
            rw [HN.out, ← Hav.out]
            show Ending.returned (Value.tuple #[_, _]) = Ending.returned (Value.tuple #[_, _])
            first | rfl | (congr 3; first | rfl | go_num | (congr 1; omega))
end Go.Proofs.YtdkoafmgenbkbaaDoor
