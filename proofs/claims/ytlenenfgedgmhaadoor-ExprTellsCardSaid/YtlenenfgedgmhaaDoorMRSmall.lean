/- The reference's Int answers a text's number, or none. The reference's small functions of tokens: a number, among texts, a beginning of a token, a whole token, what may not follow. -/
import Derived.Test.YtlenenfgedgmhaaDoorMUnq
import Derived.Test.YtlenenfgedgmhaaDoorScan
namespace Go.Proofs.YtlenenfgedgmhaaDoor
set_option linter.unusedSimpArgs false
set_option linter.unusedVariables false
open Go.RowKit

theorem intN_neg (D : List Nat) : intN (45 :: D) = if D = [] ∨ 19 < D.length ∨ D.head? = some 48 then none else if Digits D then (if 9223372036854775808 < val 0 D then none else some (-(val 0 D : Int))) else none := by
  unfold intN
  rw [if_pos (show (45 :: D).head? = some 45 from rfl)]
  rfl
theorem intN_pos (l : List Nat) (h : l.head? ≠ some 45) : intN l = if l = [] ∨ 19 < l.length ∨ (l.head? = some 48 ∧ 1 < l.length) then none else if Digits l then (if 9223372036854775807 < val 0 l then none else some (val 0 l : Int)) else none := by
  unfold intN
  rw [if_neg h]
theorem val_lt : ∀ (l : List Nat) (a n : Nat), Digits l → a < 10 ^ n → val a l < 10 ^ (n + l.length)
  | [], a, n, _, h => by simpa [val] using h
  | c :: l, a, n, hd, h => by
    have hc := hd c (by simp)
    have := val_lt l (10 * a + (c - 48)) (n + 1) (fun x hx => hd x (by simp [hx])) (by rw [Nat.pow_succ]; omega)
    have e : n + (c :: l).length = n + 1 + l.length := by simp; omega
    rw [e]
    exact this
theorem val_take {l : List Nat} {k c : Nat} (h : l[k]? = some c) : val 0 (l.take (k + 1)) = 10 * val 0 (l.take k) + (c - 48) := by
  have hk := (List.getElem?_eq_some_iff.1 h).1
  rw [List.take_succ_eq_append_getElem hk, (List.getElem?_eq_some_iff.1 h).2, val_app]
  rfl
theorem val_head {l : List Nat} (h1 : l ≠ []) (hd : Digits l) (h2 : l.head? ≠ some 48) : 0 < val 0 l := by
  rcases Nat.eq_zero_or_pos (val 0 l) with h0 | h0
  · have := dec_val _ l rfl h1 hd (Or.inl h2)
    rw [h0, dec_small (by omega)] at this
    rw [← this] at h2
    simp at h2
  · exact h0

set_option maxHeartbeats 4000000 in
set_option maxRecDepth 100000 in
theorem ref_int (s : ByteArray) (hs : s.size ≤ 281474976710656) (w : World) : Calls Tryd.prog 97 #[.string s] w fun e w' => e = .returned (intV (intN (bs s))) ∧ Below w.heap.size w w' := by
  by_cases h45 : (bs s)[0]? = some 45
  · have hz : 0 < s.size := by rw [← bs_len]; exact (List.getElem?_eq_some_iff.1 h45).1
    have i0 := fun W => index_txt W 9 Tryd.underlying9 h45 .i64 0 rfl
    obtain ⟨dS, hE⟩ : ∃ d, s.extract 1 s.size = d := ⟨_, rfl⟩
    obtain ⟨D, hbs⟩ : ∃ D, bs dS = D := ⟨_, rfl⟩
    have hsD : bs s = 45 :: D := by
      rw [← hbs, ← hE, bs_extract, List.take_of_length_le (by rw [bs_len]; exact Nat.le_refl _)]
      cases h : bs s with
      | nil => rw [h] at h45; simp at h45
      | cons b t => rw [h] at h45; simp at h45; subst h45; rfl
    have hint := (congrArg intN hsD).trans (intN_neg D)
    obtain ⟨m, hm⟩ : ∃ m, D.length = m := ⟨_, rfl⟩
    have hds : dS.size = m := by rw [← bs_len, hbs, hm]
    have hDb : Bytes D := by rw [← hbs]; exact bs_bytes dS
    have hget : ∀ k, k < m → ∃ c, D[k]? = some c ∧ c < 256 := fun k hk => by
      have := get_bs (s := dS) (k := k) (by omega)
      rwa [hbs] at this
    clear hsD
    have hN : intN (bs s) = if D = [] ∨ 19 < D.length ∨ D.head? = some 48 then none else if Digits D then (if 9223372036854775808 < val 0 D then none else some (-(val 0 D : Int))) else none := hint
    clear hint
    by_cases k1 : m = 0
    · subst k1
      have hD : D = [] := List.eq_nil_of_length_eq_zero hm
      have HN := Lib.hid (hN.trans (if_pos (Or.inl hD)))
      clear hN hD hm hDb
      go_enter Tryd.func97, Tryd.ntmps97
      go_wp2_with fail
      go_ret2
      exact ⟨by rw [HN.out]; rfl, Below.refl _ _⟩
    have k1' : ((m : Int) == 0) = false := by simp; omega
    obtain ⟨c0, hc0, c0256⟩ := hget 0 (by omega)
    have j0 := fun W => index_txt W 9 Tryd.underlying9 (hbs.symm ▸ hc0) .i64 0 rfl
    have hhead : D.head? = some c0 := by rw [List.head?_eq_getElem?]; exact hc0
    have J0 := Lib.hid j0
    clear j0
    by_cases k2 : 19 < m
    · have HN := Lib.hid (hN.trans (if_pos (Or.inr (Or.inl (by rw [hm]; exact k2)))))
      have j0 := J0.out
      clear hN hm hDb hhead hc0 hbs
      go_enter Tryd.func97, Tryd.ntmps97
      go_wp2_with fail
      go_ret2
      exact ⟨by rw [HN.out]; rfl, Below.refl _ _⟩
    have k2' : decide (19 < (m : Int)) = false := by simp; omega
    by_cases k3 : c0 = 48
    · subst k3
      have HN := Lib.hid (hN.trans (if_pos (Or.inr (Or.inr hhead))))
      have j0 := J0.out
      clear hN hm hDb hhead hc0 hbs
      go_enter Tryd.func97, Tryd.ntmps97
      go_wp2_with fail
      go_ret2
      exact ⟨by rw [HN.out]; rfl, Below.refl _ _⟩
    have k3' : ((c0 : Int) == 48) = false := by simp; omega
    have hcnd : ¬ (D = [] ∨ 19 < D.length ∨ D.head? = some 48) := by
      intro hx
      rcases hx with hx | hx | hx
      · rw [hx] at hm; simp at hm; exact k1 hm.symm
      · omega
      · rw [hhead] at hx; injection hx with hx; exact k3 hx
    have hposv : Digits D → 0 < val 0 D := fun hd => val_head (fun e => by rw [e] at hm; simp at hm; exact k1 hm.symm) hd (by rw [hhead]; simpa using k3)
    have Hpos := Lib.hid hposv
    clear hposv
    rw [if_neg hcnd] at hN
    clear hcnd hhead hc0
    have HNN := Lib.hid hN
    clear hN
    have HDb := Lib.hid hDb
    have Hm := Lib.hid hm
    have Hget := Lib.hid hget
    have Hbs := Lib.hid hbs
    clear hDb hm hget hbs
    have j0 := J0.out
    go_enter Tryd.func97, Tryd.ntmps97
    go_wp2_with fail
    go_loopw [7, 8] (fun nv i wr => ∃ (k : Nat) (a : Int), k ≤ m ∧ i = .int .i64 k ∧ nv = .int .u64 a ∧ 0 ≤ a ∧ a ≤ 9999999999999999999 ∧ Hid (a = (val 0 (D.take k) : Int) ∧ Digits (D.take k)) ∧ Quiet w wr) (fun _ i _ => m - (intOf i).toNat)
    case atStart => exact ⟨0, 0, by omega, rfl, rfl, by omega, by omega, ⟨by simp [val], fun c hc => by simp at hc⟩, Quiet.refl _⟩
    case round =>
      obtain ⟨k, a, hk, rfl, rfl, ha0, ha1, hinv, hq⟩ := hrel
      clear j0
      by_cases hlt : k < m
      · obtain ⟨c, hc, c256⟩ := Hget.out k hlt
        have i1 := fun W => index_txt W 9 Tryd.underlying9 (Hbs.out.symm ▸ hc) .i64 _ rfl
        have hkl := (List.getElem?_eq_some_iff.1 hc).1
        by_cases hcd : 48 ≤ c ∧ c ≤ 57
        · have HA := Lib.hid (fun W => among_any c ⟨#[48, 49, 50, 51, 52, 53, 54, 55, 56, 57]⟩ (by decide) W)
          have hmf : decide (c ∈ bs ⟨#[48, 49, 50, 51, 52, 53, 54, 55, 56, 57]⟩) = true := by rw [mem_figs]; simpa using hcd
          rw [hmf] at HA
          clear hmf
          have hvt := val_take hc
          have hdg : Digits (D.take (k + 1)) := by
            rw [List.take_succ_eq_append_getElem hkl, (List.getElem?_eq_some_iff.1 hc).2]
            intro x hx
            rcases List.mem_append.1 hx with hx | hx
            · exact hinv.out.2 x hx
            · simp at hx; omega
          have hlim : a ≤ 999999999999999999 := by
            have h1 := val_lt (D.take k) 0 0 hinv.out.2 (by omega)
            have h2 : (D.take k).length ≤ 18 := by have := List.length_take_le k D; omega
            have h3 : 10 ^ (0 + (D.take k).length) ≤ 10 ^ 18 := Nat.pow_le_pow_right (by omega) (by omega)
            have := hinv.out.1
            omega
          have hnew : 10 * a + ((c : Int) - 48) = (val 0 (D.take (k + 1)) : Int) := by rw [hvt, hinv.out.1]; omega
          have HV := Lib.hid (And.intro hnew hdg)
          obtain ⟨cc1, cc2⟩ := hcd
          clear hvt hdg hnew hc hkl
          go_wp2_with (go_at_call 92; refine (HA.out _).mono ?_; rintro e w1 ⟨rfl, q1⟩)
          go_roundw
          case rel => exact ⟨k + 1, 10 * a + ((c : Int) - 48), by omega, by go_num, by first | rfl | go_num, by omega, by omega, HV.out, hq.trans q1⟩
          case measure => simp [intOf]; omega
        · have HA := Lib.hid (fun W => among_any c ⟨#[48, 49, 50, 51, 52, 53, 54, 55, 56, 57]⟩ (by decide) W)
          have hmf : decide (c ∈ bs ⟨#[48, 49, 50, 51, 52, 53, 54, 55, 56, 57]⟩) = false := by rw [mem_figs]; simpa using hcd
          rw [hmf] at HA
          clear hmf
          have hnd : ¬ Digits D := fun hd => hcd (hd c (List.mem_iff_getElem?.2 ⟨k, hc⟩))
          have HN := Lib.hid (HNN.out.trans (if_neg hnd))
          clear hnd hc hkl hcd
          go_wp2_with (go_at_call 92; refine (HA.out _).mono ?_; rintro e w1 ⟨rfl, q1⟩)
          go_ret2
          exact ⟨by rw [HN.out]; rfl, (hq.trans q1).below _⟩
      · have hdec : decide (k < m) = false := by simp; omega
        have hall : D.take k = D := List.take_of_length_le (by rw [Hm.out]; omega)
        have hfin := hinv.out
        rw [hall] at hfin
        obtain ⟨hav, hdg⟩ := hfin
        have hN2 := HNN.out.trans (if_pos hdg)
        have hp : 1 ≤ a := by have := Hpos.out hdg; omega
        by_cases hbig : 9223372036854775808 < val 0 D
        · have HN := Lib.hid (hN2.trans (if_pos hbig))
          have hb1 : 9223372036854775808 < a := by omega
          clear hN2 hbig hav hdg hall
          go_wp2_with fail
          go_ret2
          exact ⟨by rw [HN.out]; rfl, hq.below _⟩
        · have HN := Lib.hid (hN2.trans (if_neg hbig))
          have hb1 : a ≤ 9223372036854775808 := by omega
          have Hav := Lib.hid hav
          clear hN2 hbig hav hdg hall
          go_wp2_with fail
          go_ret2
          refine ⟨?_, hq.below _⟩
          rw [HN.out, ← Hav.out]
          show Ending.returned (Value.tuple #[_, _]) = Ending.returned (Value.tuple #[_, _])
          first | rfl | (congr 3; first | rfl | go_num | (congr 1; omega))
  · have hb : (bs s).head? ≠ some 45 := by rw [List.head?_eq_getElem?]; exact h45
    obtain ⟨D, hbs⟩ : ∃ D, bs s = D := ⟨_, rfl⟩
    have hint := (congrArg intN hbs).trans (intN_pos D (hbs ▸ hb))
    obtain ⟨m, hm⟩ : ∃ m, D.length = m := ⟨_, rfl⟩
    have hds : s.size = m := by rw [← bs_len, hbs, hm]
    have hDb : Bytes D := by rw [← hbs]; exact bs_bytes s
    have hget : ∀ k, k < m → ∃ c, D[k]? = some c ∧ c < 256 := fun k hk => by
      have := get_bs (s := s) (k := k) (by omega)
      rwa [hbs] at this
    have hfirst : ∀ c0 : Nat, D[0]? = some c0 → ((c0 : Int) == 45) = false := by
      intro c0 h
      rw [hbs] at h45
      have : c0 ≠ 45 := fun e => h45 (by rw [h, e])
      simp; omega
    have hN : intN (bs s) = if D = [] ∨ 19 < D.length ∨ (D.head? = some 48 ∧ 1 < D.length) then none else if Digits D then (if 9223372036854775807 < val 0 D then none else some (val 0 D : Int)) else none := hint
    clear hint
    by_cases k1 : m = 0
    · subst k1
      have hD : D = [] := List.eq_nil_of_length_eq_zero hm
      have HN := Lib.hid (hN.trans (if_pos (Or.inl hD)))
      clear hN hD hm hDb
      go_enter Tryd.func97, Tryd.ntmps97
      go_wp2_with fail
      go_ret2
      exact ⟨by rw [HN.out]; rfl, Below.refl _ _⟩
    have k1' : ((m : Int) == 0) = false := by simp; omega
    obtain ⟨c0, hc0, c0256⟩ := hget 0 (by omega)
    have j0 := fun W => index_txt W 9 Tryd.underlying9 (hbs.symm ▸ hc0) .i64 0 rfl
    have c045 := hfirst c0 hc0
    have hhead : D.head? = some c0 := by rw [List.head?_eq_getElem?]; exact hc0
    have J0 := Lib.hid j0
    clear j0
    by_cases k2 : 19 < m
    · have HN := Lib.hid (hN.trans (if_pos (Or.inr (Or.inl (by rw [hm]; exact k2)))))
      have j0 := J0.out
      clear hN hm hDb hhead hc0 hbs
      go_enter Tryd.func97, Tryd.ntmps97
      go_wp2_with fail
      go_ret2
      exact ⟨by rw [HN.out]; rfl, Below.refl _ _⟩
    have k2' : decide (19 < (m : Int)) = false := by simp; omega
    by_cases k3 : c0 = 48 ∧ 1 < m
    · obtain ⟨rfl, k3⟩ := k3
      have HN := Lib.hid (hN.trans (if_pos (Or.inr (Or.inr ⟨hhead, by rw [hm]; exact k3⟩))))
      have j0 := J0.out
      clear hN hm hDb hhead hc0 hbs
      go_enter Tryd.func97, Tryd.ntmps97
      go_wp2_with fail
      go_ret2
      exact ⟨by rw [HN.out]; rfl, Below.refl _ _⟩
    have hcnd : ¬ (D = [] ∨ 19 < D.length ∨ (D.head? = some 48 ∧ 1 < D.length)) := by
      intro hx
      rcases hx with hx | hx | ⟨hx, hy⟩
      · rw [hx] at hm; simp at hm; exact k1 hm.symm
      · omega
      · rw [hhead] at hx; injection hx with hx; exact k3 ⟨hx, by omega⟩
    rw [if_neg hcnd] at hN
    clear hcnd hhead hc0
    have k3' : (((c0 : Int) == 48) = false) ∨ (c0 = 48 ∧ m = 1) := by
      by_cases e : c0 = 48
      · exact Or.inr ⟨e, by omega⟩
      · left; simp; omega
    clear k3
    have HNN := Lib.hid hN
    clear hN
    have HDb := Lib.hid hDb
    have Hm := Lib.hid hm
    have Hget := Lib.hid hget
    have Hbs := Lib.hid hbs
    clear hDb hm hget hbs
    rcases k3' with k3' | ⟨rfl, k3'⟩
    all_goals
      have j0 := J0.out
      go_enter Tryd.func97, Tryd.ntmps97
      go_wp2_with fail
      go_loopw [7, 8] (fun nv i wr => ∃ (k : Nat) (a : Int), k ≤ m ∧ i = .int .i64 k ∧ nv = .int .u64 a ∧ 0 ≤ a ∧ a ≤ 9999999999999999999 ∧ Hid (a = (val 0 (D.take k) : Int) ∧ Digits (D.take k)) ∧ Quiet w wr) (fun _ i _ => m - (intOf i).toNat)
      case atStart => exact ⟨0, 0, by omega, rfl, rfl, by omega, by omega, ⟨by simp [val], fun c hc => by simp at hc⟩, Quiet.refl _⟩
      case round =>
        obtain ⟨k, a, hk, rfl, rfl, ha0, ha1, hinv, hq⟩ := hrel
        clear j0
        by_cases hlt : k < m
        · obtain ⟨c, hc, c256⟩ := Hget.out k hlt
          have i1 := fun W => index_txt W 9 Tryd.underlying9 (Hbs.out.symm ▸ hc) .i64 _ rfl
          have hkl := (List.getElem?_eq_some_iff.1 hc).1
          by_cases hcd : 48 ≤ c ∧ c ≤ 57
          · have HA := Lib.hid (fun W => among_any c ⟨#[48, 49, 50, 51, 52, 53, 54, 55, 56, 57]⟩ (by decide) W)
            have hmf : decide (c ∈ bs ⟨#[48, 49, 50, 51, 52, 53, 54, 55, 56, 57]⟩) = true := by rw [mem_figs]; simpa using hcd
            rw [hmf] at HA
            clear hmf
            have hvt := val_take hc
            have hdg : Digits (D.take (k + 1)) := by
              rw [List.take_succ_eq_append_getElem hkl, (List.getElem?_eq_some_iff.1 hc).2]
              intro x hx
              rcases List.mem_append.1 hx with hx | hx
              · exact hinv.out.2 x hx
              · simp at hx; omega
            have hlim : a ≤ 999999999999999999 := by
              have h1 := val_lt (D.take k) 0 0 hinv.out.2 (by omega)
              have h2 : (D.take k).length ≤ 18 := by have := List.length_take_le k D; omega
              have h3 : 10 ^ (0 + (D.take k).length) ≤ 10 ^ 18 := Nat.pow_le_pow_right (by omega) (by omega)
              have := hinv.out.1
              omega
            have hnew : 10 * a + ((c : Int) - 48) = (val 0 (D.take (k + 1)) : Int) := by rw [hvt, hinv.out.1]; omega
            have HV := Lib.hid (And.intro hnew hdg)
            obtain ⟨cc1, cc2⟩ := hcd
            clear hvt hdg hnew hc hkl
            go_wp2_with (go_at_call 92; refine (HA.out _).mono ?_; rintro e w1 ⟨rfl, q1⟩)
            go_roundw
            case rel => exact ⟨k + 1, 10 * a + ((c : Int) - 48), by omega, by go_num, by first | rfl | go_num, by omega, by omega, HV.out, hq.trans q1⟩
            case measure => simp [intOf]; omega
          · have HA := Lib.hid (fun W => among_any c ⟨#[48, 49, 50, 51, 52, 53, 54, 55, 56, 57]⟩ (by decide) W)
            have hmf : decide (c ∈ bs ⟨#[48, 49, 50, 51, 52, 53, 54, 55, 56, 57]⟩) = false := by rw [mem_figs]; simpa using hcd
            rw [hmf] at HA
            clear hmf
            have hnd : ¬ Digits D := fun hd => hcd (hd c (List.mem_iff_getElem?.2 ⟨k, hc⟩))
            have HN := Lib.hid (HNN.out.trans (if_neg hnd))
            clear hnd hc hkl hcd
            go_wp2_with (go_at_call 92; refine (HA.out _).mono ?_; rintro e w1 ⟨rfl, q1⟩)
            go_ret2
            exact ⟨by rw [HN.out]; rfl, (hq.trans q1).below _⟩
        · have hdec : decide (k < m) = false := by simp; omega
          have hall : D.take k = D := List.take_of_length_le (by rw [Hm.out]; omega)
          have hfin := hinv.out
          rw [hall] at hfin
          obtain ⟨hav, hdg⟩ := hfin
          have hN2 := HNN.out.trans (if_pos hdg)
          by_cases hbig : 9223372036854775807 < val 0 D
          · have HN := Lib.hid (hN2.trans (if_pos hbig))
            have hb1 : 9223372036854775807 < a := by omega
            clear hN2 hbig hav hdg hall
            go_wp2_with fail
            go_ret2
            exact ⟨by rw [HN.out]; rfl, hq.below _⟩
          · have HN := Lib.hid (hN2.trans (if_neg hbig))
            have hb1 : a ≤ 9223372036854775807 := by omega
            have Hav := Lib.hid hav
            clear hN2 hbig hav hdg hall
            go_wp2_with fail
            go_ret2
            refine ⟨?_, hq.below _⟩
            rw [HN.out, ← Hav.out]
            show Ending.returned (Value.tuple #[_, _]) = Ending.returned (Value.tuple #[_, _])
            first | rfl | (congr 3; first | rfl | go_num | (congr 1; omega))
end Go.Proofs.YtlenenfgedgmhaaDoor
namespace Go.Proofs.YtlenenfgedgmhaaDoor
set_option linter.unusedSimpArgs false
set_option linter.unusedVariables false
open Go.RowKit

def numV (l : List Nat) : Value := match intN l with
  | some v => .tuple #[.int .i64 v, .bool (decide (0 ≤ v))]
  | none => .tuple #[.int .i64 0, .bool false]
theorem ref_number (s : ByteArray) (hs : s.size ≤ 281474976710656) (w : World) : Calls Tryd.prog 77 #[.string s] w fun e w' => e = .returned (numV (bs s)) ∧ Below w.heap.size w w' := by
  have RI := Lib.hid (fun W => ref_int s hs W)
  clear hs
  unfold numV
  cases hi : intN (bs s) with
  | none =>
    rw [hi] at RI
    clear hi
    have RI' : Hid (∀ W, Calls Tryd.prog 97 #[.string s] W fun e w' => e = .returned (.tuple #[.int .i64 0, .int .i64 2]) ∧ Below W.heap.size W w') := RI
    clear RI
    go_enter Tryd.func77, Tryd.ntmps77
    go_wp2_with (first | (go_at_call 97; refine (RI'.out _).mono ?_; rintro e w1 ⟨rfl, b1⟩))
    go_ret2
    exact ⟨rfl, b1⟩
  | some v =>
    rw [hi] at RI
    have RI' : Hid (∀ W, Calls Tryd.prog 97 #[.string s] W fun e w' => e = .returned (.tuple #[.int .i64 v, .int .i64 0]) ∧ Below W.heap.size W w') := RI
    clear RI
    obtain ⟨v1, v2, _⟩ := intN_some hi
    clear hi
    simp only
    by_cases hv : 0 ≤ v
    · have hd : decide (0 ≤ v) = true := decide_eq_true hv
      rw [hd]
      go_enter Tryd.func77, Tryd.ntmps77
      go_wp2_with (first | (go_at_call 97; refine (RI'.out _).mono ?_; rintro e w1 ⟨rfl, b1⟩))
      go_ret2
      exact ⟨rfl, b1⟩
    · have hd : decide (0 ≤ v) = false := decide_eq_false hv
      rw [hd]
      go_enter Tryd.func77, Tryd.ntmps77
      go_wp2_with (first | (go_at_call 97; refine (RI'.out _).mono ?_; rintro e w1 ⟨rfl, b1⟩))
      go_ret2
      exact ⟨rfl, b1⟩

/-- a cell's text, as numbers -/
def IsTxt (x : List Value) (m : List Nat) : Prop := x = [.string (txt m)] ∧ Bytes m ∧ m.length ≤ maxLen
theorem in_any {l : List (List Nat)} {v : Value} (s : ByteArray) (w w0 : World) (h : SlR w0 w0.heap.size 1 IsTxt v l) (hw : Below w0.heap.size w0 w) :
    Calls Tryd.prog 79 #[v, .string s] w fun e w' => e = .returned (.bool (decide (bs s ∈ l))) ∧ Quiet w w' := by
  obtain ⟨a, c, rfl⟩ : ∃ a c, v = .slice a l.length c := by obtain ⟨a, c, h, _⟩ := h.form; exact ⟨a, c, h⟩
  have hn : l.length ≤ 9223372036854775807 := by have := h.caps; unfold maxLen at this; omega
  obtain ⟨n, hlen⟩ : ∃ n, l.length = n := ⟨_, rfl⟩
  rw [hlen] at h hn ⊢
  have Hlen := Lib.hid hlen
  have Hs := Lib.hid h
  have Hw := Lib.hid hw
  clear h hlen hw
  go_enter Tryd.func79, Tryd.ntmps79
  go_wp2_with fail
  go_loopw [5] (fun j wr => ∃ k : Nat, k ≤ n ∧ j = .int .i64 k ∧ Hid (¬ bs s ∈ l.take k) ∧ Quiet w wr) (fun j _ => n - (intOf j).toNat)
  case atStart => exact ⟨0, by omega, rfl, by simp [Hid], Quiet.refl _⟩
  case round =>
    obtain ⟨k, hk, rfl, hin, hq⟩ := hrel
    have b1 : (0 : Int) ≤ (k : Int) := Int.natCast_nonneg _
    by_cases hlt : k < n
    · obtain ⟨y, hd⟩ := get_some Hlen.out hlt
      have hw1 := Hw.out.trans ((hq.below w.heap.size).mono Hw.out.size)
      obtain ⟨b, off, x, rfl, hbB, hxl, ⟨rfl, hyb, _⟩, hx⟩ := (Hs.out.below hw1).at_ hd
      have h0 := hx 0 _ rfl
      simp only [Nat.mul_one, Nat.add_zero] at h0
      have hkl := (List.getElem?_eq_some_iff.1 hd).1
      by_cases hcd : txt y = s
      · subst hcd
        have hv : decide (bs (txt y) ∈ l) = true := by rw [bs_txt hyb]; simp; exact List.mem_iff_getElem?.2 ⟨k, hd⟩
        have Hv := Lib.hid hv
        clear hv hd hkl hx hxl hw1
        go_wp2_with fail
        go_ret
        exact ⟨by rw [Hv.out]; rfl, hq⟩
      · have e1 : ((txt y).toList == s.toList) = false := by simpa [toList_inj] using hcd
        have hnot : ¬ bs s ∈ l.take (k + 1) := by
          rw [List.take_succ_eq_append_getElem hkl, (List.getElem?_eq_some_iff.1 hd).2]
          intro hx
          rcases List.mem_append.1 hx with hx | hx
          · exact hin.out hx
          · simp at hx; exact hcd (by rw [← hx, txt_bs])
        have Hnot := Lib.hid hnot
        clear hnot hd hkl hx hxl hw1 hcd
        go_wp2_with fail
        go_roundw
        case rel => exact ⟨k + 1, by omega, by go_num, Hnot.out, hq⟩
        case measure => simp [intOf]; omega
    · have hdec : decide (k < n) = false := by simp; omega
      have hv : decide (bs s ∈ l) = false := by
        have := hin.out
        rw [List.take_of_length_le (by rw [Hlen.out]; omega)] at this
        simpa using this
      have Hv := Lib.hid hv
      clear hv
      go_wp2_with fail
      go_ret
      exact ⟨by rw [Hv.out]; rfl, hq⟩

def textsV (l : List (List Nat)) : List Value := l.map fun m => Value.string (txt m)
theorem texts_read {w : World} {g : Nat} {t : TypeId} (l : List (List Nat)) (hl : ∀ m ∈ l, Bytes m ∧ m.length ≤ 8) (hm : l.length ≤ 100) (hb : Blk w g t (textsV l).toArray) (n c : Nat) (hn : n = l.length) (hc : c = l.length) :
    SlR w w.heap.size 1 IsTxt (.slice (some ⟨g, 0, none⟩) n c) l := by
  subst hn hc
  refine ⟨some ⟨g, 0, none⟩, l.length, rfl, Nat.le_refl _, by unfold maxLen; omega, fun _ => ⟨g, 0, rfl, hb.lt, fun i m hm => ?_⟩⟩
  have h8 := hl m (List.mem_iff_getElem?.2 ⟨i, hm⟩)
  refine ⟨[.string (txt m)], rfl, ⟨rfl, h8.1, by unfold maxLen; omega⟩, fun j u hu => ?_⟩
  rcases j with _ | j
  · simp at hu
    subst hu
    have : (textsV l).toArray[i]? = some (Value.string (txt m)) := by simp [textsV, hm]
    have := hb.cell this
    simpa using this
  · simp at hu
theorem marks_made (w : World) : Calls Tryd.prog 78 #[] w fun e w' => e = .returned (.slice (some ⟨w.heap.size, 0, none⟩) 16 16) ∧ w' = w.alloc (.cells (textsV marksL).toArray 9) := by
  go_enter Tryd.func78, Tryd.ntmps78
  go_wp2_with fail
  go_ret
  exact ⟨rfl, rfl⟩
set_option maxRecDepth 100000 in
theorem words_made (w : World) : Calls Tryd.prog 80 #[] w fun e w' => e = .returned (.slice (some ⟨w.heap.size, 0, none⟩) 22 22) ∧ w' = w.alloc (.cells (textsV wordsL).toArray 9) := by
  go_enter Tryd.func80, Tryd.ntmps80
  go_wp2_with fail
  go_ret
  exact ⟨rfl, rfl⟩
theorem marks_read (w : World) : SlR (w.alloc (.cells (textsV marksL).toArray 9)) (w.alloc (.cells (textsV marksL).toArray 9)).heap.size 1 IsTxt (.slice (some ⟨w.heap.size, 0, none⟩) 16 16) marksL :=
  texts_read marksL (by unfold Bytes; decide) (by decide) (Blk.new w _ _) 16 16 rfl rfl
theorem words_read (w : World) : SlR (w.alloc (.cells (textsV wordsL).toArray 9)) (w.alloc (.cells (textsV wordsL).toArray 9)).heap.size 1 IsTxt (.slice (some ⟨w.heap.size, 0, none⟩) 22 22) wordsL :=
  texts_read wordsL (by unfold Bytes; decide) (by decide) (Blk.new w _ _) 22 22 rfl rfl
set_option maxRecDepth 100000 in
theorem ref_more (c : Nat) (hc : c < 256) (w : World) : Calls Tryd.prog 50 #[.int .u8 (c : Int)] w fun e w' => e = .returned (.bool (furtherN c)) ∧ Below w.heap.size w w' := by
  have hx : bs (⟨#[97]⟩ ++ txt [c]) = [97, c] := by rw [bs_append, bs_txt (fun x hx => by simp at hx; omega)]; rfl
  have hr : rightN [97, c] = furtherN c := by
    have e1 : letterN 97 = true := by decide
    have e2 : furtherN 97 = true := by decide
    simp [rightN, e1, e2]
  have RR := Lib.hid (fun W => ref_right (⟨#[97]⟩ ++ txt [c]) (by rw [← bs_len, hx]; unfold maxLen; simp) W)
  rw [hx, hr] at RR
  have hcv := run_text_of_row (P := Tryd.prog) 73 9 5 Tryd.underlying73 Tryd.underlying5 Tryd.underlying9 (own_bytes (w := w) (base := w.heap.size) (l := [c]) (xs := [.int .u8 (c : Int)]) rfl (Nat.le_refl _) rfl (fun x hx => by simp at hx; omega) (by unfold maxLen; simp) 1 1 rfl rfl)
  clear hx hr
  go_enter Tryd.func50, Tryd.ntmps50
  go_wp2_with (first | (go_at_call 68; refine (RR.out _).mono ?_; rintro e w1 ⟨rfl, q1⟩))
  go_ret
  exact ⟨rfl, ((Below.refl _ _).alloc (Nat.le_refl _) _).trans (q1.below _)⟩
theorem begins_of (l : List Nat) : beginsN l = ((match intN l with | some v => decide (0 ≤ v) | none => false) || (rightN l || marksL.any (fun m => l.isPrefixOf m))) := by
  unfold beginsN isNumber
  cases intN l with
  | none => simp [Bool.or_assoc]
  | some v => by_cases h : 0 ≤ v <;> simp [h, Bool.or_assoc]
theorem any_here {l : List (List Nat)} {p : List Nat → Bool} {k : Nat} {m : List Nat} (h : l[k]? = some m) (hp : p m = true) : l.any p = true := List.any_eq_true.2 ⟨m, List.mem_iff_getElem?.2 ⟨k, h⟩, hp⟩
theorem any_none {l : List (List Nat)} {p : List Nat → Bool} (h : ∀ i m, i < l.length → l[i]? = some m → p m = false) : l.any p = false := by
  rw [List.any_eq_false]
  intro m hm
  obtain ⟨i, hi⟩ := List.mem_iff_getElem?.1 hm
  rw [h i m (List.getElem?_eq_some_iff.1 hi).1 hi]
  simp
set_option maxRecDepth 100000 in
set_option maxHeartbeats 4000000 in
theorem ref_begins (s : ByteArray) (hs : s.size ≤ 4096) (w : World) : Calls Tryd.prog 48 #[.string s] w fun e w' => e = .returned (.bool (beginsN (bs s))) ∧ Below w.heap.size w w' := by
  have RN := Lib.hid (fun W => ref_number s (by omega) W)
  have RR := Lib.hid (fun W => ref_right s (by unfold maxLen; omega) W)
  have MM := Lib.hid (fun W => marks_made W)
  have hbe := begins_of (bs s)
  unfold numV at RN
  obtain ⟨v, b, hv, hb⟩ : ∃ (v : Int) (b : Bool), (match intN (bs s) with | some v => Value.tuple #[.int .i64 v, .bool (decide (0 ≤ v))] | none => .tuple #[.int .i64 0, .bool false]) = .tuple #[.int .i64 v, .bool b] ∧ (match intN (bs s) with | some v => decide (0 ≤ v) | none => false) = b := by
    cases intN (bs s) with
    | none => exact ⟨0, false, rfl, rfl⟩
    | some v => exact ⟨v, _, rfl, rfl⟩
  rw [hv] at RN
  rw [hb] at hbe
  clear hv hb
  obtain ⟨r, hr⟩ : ∃ r, rightN (bs s) = r := ⟨_, rfl⟩
  rw [hr] at RR hbe
  clear hr
  cases b with
  | true =>
    rw [Bool.true_or] at hbe
    rw [hbe]
    clear hbe
    go_enter Tryd.func48, Tryd.ntmps48
    go_wp2_with (first | (go_at_call 77; refine (RN.out _).mono ?_; rintro e w1 ⟨rfl, b1⟩))
    go_ret
    exact ⟨rfl, b1⟩
  | false =>
    rw [Bool.false_or] at hbe
    cases r with
    | true =>
      rw [Bool.true_or] at hbe
      rw [hbe]
      clear hbe
      go_enter Tryd.func48, Tryd.ntmps48
      go_wp2_with (first
        | (go_at_call 77; refine (RN.out _).mono ?_; rintro e w1 ⟨rfl, b1⟩)
        | (go_at_call 68; refine (RR.out _).mono ?_; rintro e w2 ⟨rfl, q2⟩))
      go_ret
      exact ⟨rfl, b1.trans (q2.below _)⟩
    | false =>
      rw [Bool.false_or] at hbe
      have HB := Lib.hid hbe
      clear hbe
      obtain ⟨n, hn⟩ : ∃ n, s.size = n := ⟨_, rfl⟩
      have Hn := Lib.hid hn
      rw [hn] at hs
      have hn' : (s.size : Int) = (n : Int) := by rw [hn]
      clear hn
      go_enter Tryd.func48, Tryd.ntmps48
      go_wp2_with (first
        | (go_at_call 77; refine (RN.out _).mono ?_; rintro e w1 ⟨rfl, b1⟩)
        | (go_at_call 68
           refine (RR.out _).mono ?_
           rintro e w2 ⟨rfl, q2⟩
           have B2 : Hid (Below w.heap.size w w2) := Lib.hid (b1.trans (q2.below _))
           clear b1 q2)
        | (go_at_call 78
           refine (MM.out _).mono ?_
           rintro e w3 ⟨rfl, h3⟩
           have M3 : Hid (w3 = w2.alloc (.cells (textsV marksL).toArray 9)) := Lib.hid h3
           clear h3))
      have B3 : Hid (Below w.heap.size w w3) := Lib.hid (by rw [M3.out]; exact B2.out.alloc B2.out.size _)
      have S3 : Hid (SlR w3 w3.heap.size 1 IsTxt (.slice (some ⟨w2.heap.size, 0, none⟩) 16 16) marksL) := Lib.hid (by rw [M3.out]; exact marks_read w2)
      go_loopw [6] (fun j wr => ∃ k : Nat, k ≤ 16 ∧ j = .int .i64 k ∧ Hid (∀ i m, i < k → marksL[i]? = some m → (bs s).isPrefixOf m = false) ∧ Quiet w3 wr) (fun j _ => 16 - (intOf j).toNat)
      case atStart => exact ⟨0, by omega, rfl, fun i m h => by omega, Quiet.refl _⟩
      case round =>
        obtain ⟨k, hk, rfl, hin, hq⟩ := hrel
        have c1 : (0 : Int) ≤ (k : Int) := Int.natCast_nonneg _
        by_cases hlt : k < 16
        · obtain ⟨m, hm, _, hml, _⟩ := marks_index k hlt wr
          obtain ⟨b, off, x, hsome, hbB, hxl, ⟨rfl, hmb, _⟩, hx⟩ := (S3.out.below (hq.below _)).at_ hm
          injection hsome with hsome
          injection hsome with e1 e2
          subst e1 e2
          have h0 := hx 0 _ rfl
          simp only [Nat.mul_one, Nat.add_zero, Nat.zero_add] at h0
          have hmz : ((txt m).size : Int) = (m.length : Int) := by rw [txt_size]
          have hpre := prefix_take (bs s) m
          rw [bs_len, Hn.out] at hpre
          by_cases hle : n ≤ m.length
          · have hd1 : decide ((n : Int) ≤ (m.length : Int)) = true := by simp; omega
            have hex : bs ((txt m).extract 0 n) = m.take n := by rw [bs_extract, List.drop_zero, bs_txt hmb]
            by_cases heq : m.take n = bs s
            · have hv := any_here (p := fun m => (bs s).isPrefixOf m) hm (by show (bs s).isPrefixOf m = true; rw [hpre]; exact decide_eq_true ⟨hle, heq⟩)
              have hx2 : (txt m).extract 0 n = s := bs_inj (hex.trans heq)
              have HV := Lib.hid hv
              clear hv hm hx hxl hpre hex heq hmb
              go_wp2_with fail
              go_ret
              exact ⟨by rw [HB.out, HV.out]; rfl, B3.out.trans ((hq.below _).mono B3.out.size)⟩
            · have hv : ∀ i m, i < k + 1 → marksL[i]? = some m → (bs s).isPrefixOf m = false := so_far1 hm (by rw [hpre]; exact decide_eq_false (fun h => heq h.2)) hin.out
              have HV := Lib.hid hv
              have hx2 : ¬ ((txt m).extract 0 n).toList = s.toList := fun e => heq (by rw [← hex, (toList_inj _ _).1 e])
              have hx3 : (((txt m).extract 0 n).toList == s.toList) = false := by rw [beq_eq_false_iff_ne]; exact hx2
              clear hv hm hx hxl hpre hex heq hmb hin
              go_wp2_with fail
              go_roundw
              case rel => exact ⟨k + 1, by omega, by go_num, HV.out, hq⟩
              case measure => simp [intOf]; omega
          · have hd1 : decide ((n : Int) ≤ (m.length : Int)) = false := by simp; omega
            have hv : ∀ i m, i < k + 1 → marksL[i]? = some m → (bs s).isPrefixOf m = false := so_far1 hm (by rw [hpre]; exact decide_eq_false (fun h => hle h.1)) hin.out
            have HV := Lib.hid hv
            clear hv hm hx hxl hpre hmb hin
            go_wp2_with fail
            go_roundw
            case rel => exact ⟨k + 1, by omega, by go_num, HV.out, hq⟩
            case measure => simp [intOf]; omega
        · have hk16 : k = 16 := by omega
          subst hk16
          have hdec : decide (((16 : Nat) : Int) < 16) = false := by decide
          have hv : marksL.any (fun m => (bs s).isPrefixOf m) = false := any_none (fun i m h1 h2 => hin.out i m h1 h2)
          have HV := Lib.hid hv
          clear hv hin
          go_wp2_with fail
          go_ret
          exact ⟨by rw [HB.out, HV.out]; rfl, B3.out.trans ((hq.below _).mono B3.out.size)⟩

def wholeV (l : List Nat) : Value := match wholeN l with
  | some (k, t, v) => .tuple #[.agg #[.int .i64 (k : Int), .string (txt t), .int .i64 v, .int .i64 0], .bool true]
  | none => .tuple #[.agg #[.int .i64 5, .string (txt l), .int .i64 0, .int .i64 0], .bool false]
set_option maxRecDepth 100000 in
set_option maxHeartbeats 4000000 in
theorem ref_whole (s : ByteArray) (hs : s.size ≤ 4096) (w : World) : Calls Tryd.prog 49 #[.string s] w fun e w' => e = .returned (wholeV (bs s)) ∧ Below w.heap.size w w' := by
  have RN := Lib.hid (fun W => ref_number s (by omega) W)
  have RR := Lib.hid (fun W => ref_right s (by unfold maxLen; omega) W)
  have MM := Lib.hid (fun W => marks_made W)
  have WW := Lib.hid (fun W => words_made W)
  have tok1 : True := trivial
  have tok2 : True := trivial
  clear hs
  by_cases h1 : ∃ v, isNumber (bs s) = some v
  · obtain ⟨v, hv⟩ := h1
    have hW : wholeV (bs s) = .tuple #[.agg #[.int .i64 1, .string ⟨#[]⟩, .int .i64 v, .int .i64 0], .bool true] := by
      unfold wholeV wholeN
      rw [hv]
      rfl
    have hN : numV (bs s) = .tuple #[.int .i64 v, .bool true] := by
      unfold numV
      unfold isNumber at hv
      cases hi : intN (bs s) with
      | none => rw [hi] at hv; simp at hv
      | some u =>
        rw [hi] at hv
        simp only at hv
        by_cases h0 : 0 ≤ u
        · rw [if_pos h0] at hv; injection hv with hv; subst hv; simp [h0]
        · rw [if_neg h0] at hv; cases hv
    rw [hN] at RN
    rw [hW]
    clear hv hW hN
    go_enter Tryd.func49, Tryd.ntmps49
    go_wp2_with (first
        | (go_at_call 77
           refine (RN.out _).mono ?_
           rintro e w1 ⟨rfl, q1⟩
           have T1 : Hid (TokSt w w1 #[.int .i64 0, .string ⟨#[]⟩, .int .i64 0, .int .i64 0]) := Lib.hid ((TokSt.new w #[.int .i64 0, .string ⟨#[]⟩, .int .i64 0, .int .i64 0]).call q1)
           have t0 := T1.out.2.cell (i := 0) rfl
           have f0 := T1.out.2.frozen 0
           have t1 := T1.out.2.cell (i := 1) rfl
           have f1 := T1.out.2.frozen 1
           have t2 := T1.out.2.cell (i := 2) rfl
           have f2 := T1.out.2.frozen 2
           have t3 := T1.out.2.cell (i := 3) rfl
           have f3 := T1.out.2.frozen 3
           clear q1))
    refine bodyPost_ret (v := .tuple #[.agg #[.int .i64 1, .string ⟨#[]⟩, .int .i64 v, .int .i64 0], .bool true]) (by simp [results, Tryd.results49, go_sem, t0, t1, t2, t3]) rfl ⟨rfl, ?_⟩
    exact ((((T1.out.set 0 _).set 1 _).set 2 _).set 3 _).1.mono (Nat.le_refl _)
  have hno : isNumber (bs s) = none := by
    cases hi : isNumber (bs s) with
    | none => rfl
    | some v => exact absurd ⟨v, hi⟩ h1
  obtain ⟨v, hN⟩ : ∃ v, numV (bs s) = .tuple #[.int .i64 v, .bool false] := by
    unfold numV
    unfold isNumber at hno
    cases hi : intN (bs s) with
    | none => exact ⟨0, rfl⟩
    | some u =>
      rw [hi] at hno
      simp only at hno
      by_cases h0 : 0 ≤ u
      · rw [if_pos h0] at hno; cases hno
      · exact ⟨u, by simp [h0]⟩
  rw [hN] at RN
  clear hN h1
  by_cases h2 : bs s ∈ wordsL
  · have hW : wholeV (bs s) = .tuple #[.agg #[.int .i64 4, .string s, .int .i64 0, .int .i64 0], .bool true] := by
      unfold wholeV wholeN
      rw [hno]
      simp only
      rw [if_pos h2]
      simp [txt_bs]
    have WB : Hid (decide (bs s ∈ wordsL) = true) := Lib.hid (decide_eq_true h2)
    rw [hW]
    clear hW hno h2
    go_enter Tryd.func49, Tryd.ntmps49
    go_wp2_with (first
        | (go_at_call 77
           refine (RN.out _).mono ?_
           rintro e w1 ⟨rfl, q1⟩
           have T1 : Hid (TokSt w w1 #[.int .i64 0, .string ⟨#[]⟩, .int .i64 0, .int .i64 0]) := Lib.hid ((TokSt.new w #[.int .i64 0, .string ⟨#[]⟩, .int .i64 0, .int .i64 0]).call q1)
           have t0 := T1.out.2.cell (i := 0) rfl
           have f0 := T1.out.2.frozen 0
           have t1 := T1.out.2.cell (i := 1) rfl
           have f1 := T1.out.2.frozen 1
           have t2 := T1.out.2.cell (i := 2) rfl
           have f2 := T1.out.2.frozen 2
           have t3 := T1.out.2.cell (i := 3) rfl
           have f3 := T1.out.2.frozen 3
           clear q1)
        | (go_at_call 80
           refine (WW.out _).mono ?_
           rintro e w2 ⟨rfl, h2⟩
           have T2 : Hid (TokSt w w2 #[.int .i64 0, .string ⟨#[]⟩, .int .i64 0, .int .i64 0]) := Lib.hid (by rw [h2]; exact T1.out.alloc _)
           clear t0 t1 t2 t3 f0 f1 f2 f3
           have t0 := T2.out.2.cell (i := 0) rfl
           have f0 := T2.out.2.frozen 0
           have t1 := T2.out.2.cell (i := 1) rfl
           have f1 := T2.out.2.frozen 1
           have t2 := T2.out.2.cell (i := 2) rfl
           have f2 := T2.out.2.frozen 2
           have t3 := T2.out.2.cell (i := 3) rfl
           have f3 := T2.out.2.frozen 3
           have S2 : Hid (SlR w2 w2.heap.size 1 IsTxt (.slice (some ⟨w1.heap.size, 0, none⟩) 22 22) wordsL) := Lib.hid (by rw [h2]; exact words_read w1)
           clear h2)
        | (go_at_call 79
           have _t := tok1
           refine (in_any s _ _ S2.out (Below.refl _ _)).mono ?_
           rw [WB.out]
           rintro e w3 ⟨rfl, q3⟩
           have T3 : Hid (TokSt w w3 #[.int .i64 0, .string ⟨#[]⟩, .int .i64 0, .int .i64 0]) := Lib.hid (T2.out.quiet q3)
           clear t0 t1 t2 t3 f0 f1 f2 f3
           have t0 := T3.out.2.cell (i := 0) rfl
           have f0 := T3.out.2.frozen 0
           have t1 := T3.out.2.cell (i := 1) rfl
           have f1 := T3.out.2.frozen 1
           have t2 := T3.out.2.cell (i := 2) rfl
           have f2 := T3.out.2.frozen 2
           have t3 := T3.out.2.cell (i := 3) rfl
           have f3 := T3.out.2.frozen 3
           clear q3 tok1 _t))
    refine bodyPost_ret (v := .tuple #[.agg #[.int .i64 4, .string s, .int .i64 0, .int .i64 0], .bool true]) (by simp [results, Tryd.results49, go_sem, t0, t1, t2, t3]) rfl ⟨rfl, ?_⟩
    exact ((((T3.out.set 0 _).set 1 _).set 2 _).set 3 _).1.mono (Nat.le_refl _)
  have WB : Hid (decide (bs s ∈ wordsL) = false) := Lib.hid (decide_eq_false h2)
  by_cases h3 : rightN (bs s) = true
  · have hW : wholeV (bs s) = .tuple #[.agg #[.int .i64 3, .string s, .int .i64 0, .int .i64 0], .bool true] := by
      unfold wholeV wholeN
      rw [hno]
      simp only
      rw [if_neg h2, if_pos h3]
      simp [txt_bs]
    rw [h3] at RR
    rw [hW]
    clear hW hno h2 h3
    go_enter Tryd.func49, Tryd.ntmps49
    go_wp2_with (first
        | (go_at_call 77
           refine (RN.out _).mono ?_
           rintro e w1 ⟨rfl, q1⟩
           have T1 : Hid (TokSt w w1 #[.int .i64 0, .string ⟨#[]⟩, .int .i64 0, .int .i64 0]) := Lib.hid ((TokSt.new w #[.int .i64 0, .string ⟨#[]⟩, .int .i64 0, .int .i64 0]).call q1)
           have t0 := T1.out.2.cell (i := 0) rfl
           have f0 := T1.out.2.frozen 0
           have t1 := T1.out.2.cell (i := 1) rfl
           have f1 := T1.out.2.frozen 1
           have t2 := T1.out.2.cell (i := 2) rfl
           have f2 := T1.out.2.frozen 2
           have t3 := T1.out.2.cell (i := 3) rfl
           have f3 := T1.out.2.frozen 3
           clear q1)
        | (go_at_call 80
           refine (WW.out _).mono ?_
           rintro e w2 ⟨rfl, h2⟩
           have T2 : Hid (TokSt w w2 #[.int .i64 0, .string ⟨#[]⟩, .int .i64 0, .int .i64 0]) := Lib.hid (by rw [h2]; exact T1.out.alloc _)
           clear t0 t1 t2 t3 f0 f1 f2 f3
           have t0 := T2.out.2.cell (i := 0) rfl
           have f0 := T2.out.2.frozen 0
           have t1 := T2.out.2.cell (i := 1) rfl
           have f1 := T2.out.2.frozen 1
           have t2 := T2.out.2.cell (i := 2) rfl
           have f2 := T2.out.2.frozen 2
           have t3 := T2.out.2.cell (i := 3) rfl
           have f3 := T2.out.2.frozen 3
           have S2 : Hid (SlR w2 w2.heap.size 1 IsTxt (.slice (some ⟨w1.heap.size, 0, none⟩) 22 22) wordsL) := Lib.hid (by rw [h2]; exact words_read w1)
           clear h2)
        | (go_at_call 79
           have _t := tok1
           refine (in_any s _ _ S2.out (Below.refl _ _)).mono ?_
           rw [WB.out]
           rintro e w3 ⟨rfl, q3⟩
           have T3 : Hid (TokSt w w3 #[.int .i64 0, .string ⟨#[]⟩, .int .i64 0, .int .i64 0]) := Lib.hid (T2.out.quiet q3)
           clear t0 t1 t2 t3 f0 f1 f2 f3
           have t0 := T3.out.2.cell (i := 0) rfl
           have f0 := T3.out.2.frozen 0
           have t1 := T3.out.2.cell (i := 1) rfl
           have f1 := T3.out.2.frozen 1
           have t2 := T3.out.2.cell (i := 2) rfl
           have f2 := T3.out.2.frozen 2
           have t3 := T3.out.2.cell (i := 3) rfl
           have f3 := T3.out.2.frozen 3
           clear q3 tok1 _t)
        | (go_at_call 68
           refine (RR.out _).mono ?_
           rintro e w4 ⟨rfl, q4⟩
           have T4 : Hid (TokSt w w4 #[.int .i64 0, .string ⟨#[]⟩, .int .i64 0, .int .i64 0]) := Lib.hid ((T3.out).quiet q4)
           clear t0 t1 t2 t3 f0 f1 f2 f3
           have t0 := T4.out.2.cell (i := 0) rfl
           have f0 := T4.out.2.frozen 0
           have t1 := T4.out.2.cell (i := 1) rfl
           have f1 := T4.out.2.frozen 1
           have t2 := T4.out.2.cell (i := 2) rfl
           have f2 := T4.out.2.frozen 2
           have t3 := T4.out.2.cell (i := 3) rfl
           have f3 := T4.out.2.frozen 3
           clear q4))
    refine bodyPost_ret (v := .tuple #[.agg #[.int .i64 3, .string s, .int .i64 0, .int .i64 0], .bool true]) (by simp [results, Tryd.results49, go_sem, t0, t1, t2, t3]) rfl ⟨rfl, ?_⟩
    exact ((((T4.out.set 0 _).set 1 _).set 2 _).set 3 _).1.mono (Nat.le_refl _)
  have h3' : rightN (bs s) = false := by simpa using h3
  rw [h3'] at RR
  by_cases h4 : bs s ∈ marksL
  · have hW : wholeV (bs s) = .tuple #[.agg #[.int .i64 5, .string s, .int .i64 0, .int .i64 0], .bool true] := by
      unfold wholeV wholeN
      rw [hno]
      simp only
      rw [if_neg h2, if_neg h3, if_pos h4]
      simp [txt_bs]
    have MB : Hid (decide (bs s ∈ marksL) = true) := Lib.hid (decide_eq_true h4)
    rw [hW]
    clear hW hno h2 h3 h3' h4
    go_enter Tryd.func49, Tryd.ntmps49
    go_wp2_with (first
        | (go_at_call 77
           refine (RN.out _).mono ?_
           rintro e w1 ⟨rfl, q1⟩
           have T1 : Hid (TokSt w w1 #[.int .i64 0, .string ⟨#[]⟩, .int .i64 0, .int .i64 0]) := Lib.hid ((TokSt.new w #[.int .i64 0, .string ⟨#[]⟩, .int .i64 0, .int .i64 0]).call q1)
           have t0 := T1.out.2.cell (i := 0) rfl
           have f0 := T1.out.2.frozen 0
           have t1 := T1.out.2.cell (i := 1) rfl
           have f1 := T1.out.2.frozen 1
           have t2 := T1.out.2.cell (i := 2) rfl
           have f2 := T1.out.2.frozen 2
           have t3 := T1.out.2.cell (i := 3) rfl
           have f3 := T1.out.2.frozen 3
           clear q1)
        | (go_at_call 80
           refine (WW.out _).mono ?_
           rintro e w2 ⟨rfl, h2⟩
           have T2 : Hid (TokSt w w2 #[.int .i64 0, .string ⟨#[]⟩, .int .i64 0, .int .i64 0]) := Lib.hid (by rw [h2]; exact T1.out.alloc _)
           clear t0 t1 t2 t3 f0 f1 f2 f3
           have t0 := T2.out.2.cell (i := 0) rfl
           have f0 := T2.out.2.frozen 0
           have t1 := T2.out.2.cell (i := 1) rfl
           have f1 := T2.out.2.frozen 1
           have t2 := T2.out.2.cell (i := 2) rfl
           have f2 := T2.out.2.frozen 2
           have t3 := T2.out.2.cell (i := 3) rfl
           have f3 := T2.out.2.frozen 3
           have S2 : Hid (SlR w2 w2.heap.size 1 IsTxt (.slice (some ⟨w1.heap.size, 0, none⟩) 22 22) wordsL) := Lib.hid (by rw [h2]; exact words_read w1)
           clear h2)
        | (go_at_call 79
           have _t := tok1
           refine (in_any s _ _ S2.out (Below.refl _ _)).mono ?_
           rw [WB.out]
           rintro e w3 ⟨rfl, q3⟩
           have T3 : Hid (TokSt w w3 #[.int .i64 0, .string ⟨#[]⟩, .int .i64 0, .int .i64 0]) := Lib.hid (T2.out.quiet q3)
           clear t0 t1 t2 t3 f0 f1 f2 f3
           have t0 := T3.out.2.cell (i := 0) rfl
           have f0 := T3.out.2.frozen 0
           have t1 := T3.out.2.cell (i := 1) rfl
           have f1 := T3.out.2.frozen 1
           have t2 := T3.out.2.cell (i := 2) rfl
           have f2 := T3.out.2.frozen 2
           have t3 := T3.out.2.cell (i := 3) rfl
           have f3 := T3.out.2.frozen 3
           clear q3 tok1 _t)
        | (go_at_call 68
           refine (RR.out _).mono ?_
           rintro e w4 ⟨rfl, q4⟩
           have T4 : Hid (TokSt w w4 #[.int .i64 0, .string ⟨#[]⟩, .int .i64 0, .int .i64 0]) := Lib.hid ((T3.out).quiet q4)
           clear t0 t1 t2 t3 f0 f1 f2 f3
           have t0 := T4.out.2.cell (i := 0) rfl
           have f0 := T4.out.2.frozen 0
           have t1 := T4.out.2.cell (i := 1) rfl
           have f1 := T4.out.2.frozen 1
           have t2 := T4.out.2.cell (i := 2) rfl
           have f2 := T4.out.2.frozen 2
           have t3 := T4.out.2.cell (i := 3) rfl
           have f3 := T4.out.2.frozen 3
           clear q4)
        | (go_at_call 78
           refine (MM.out _).mono ?_
           rintro e w5 ⟨rfl, h5⟩
           have T5 : Hid (TokSt w w5 #[.int .i64 0, .string ⟨#[]⟩, .int .i64 0, .int .i64 0]) := Lib.hid (by rw [h5]; exact T4.out.alloc _)
           clear t0 t1 t2 t3 f0 f1 f2 f3
           have t0 := T5.out.2.cell (i := 0) rfl
           have f0 := T5.out.2.frozen 0
           have t1 := T5.out.2.cell (i := 1) rfl
           have f1 := T5.out.2.frozen 1
           have t2 := T5.out.2.cell (i := 2) rfl
           have f2 := T5.out.2.frozen 2
           have t3 := T5.out.2.cell (i := 3) rfl
           have f3 := T5.out.2.frozen 3
           have S5 : Hid (SlR w5 w5.heap.size 1 IsTxt (.slice (some ⟨w4.heap.size, 0, none⟩) 16 16) marksL) := Lib.hid (by rw [h5]; exact marks_read w4)
           clear h5)
        | (go_at_call 79
           have _t := tok2
           refine (in_any s _ _ S5.out (Below.refl _ _)).mono ?_
           rw [MB.out]
           rintro e w6 ⟨rfl, q6⟩
           have T6 : Hid (TokSt w w6 #[.int .i64 0, .string ⟨#[]⟩, .int .i64 0, .int .i64 0]) := Lib.hid (T5.out.quiet q6)
           clear t0 t1 t2 t3 f0 f1 f2 f3
           have t0 := T6.out.2.cell (i := 0) rfl
           have f0 := T6.out.2.frozen 0
           have t1 := T6.out.2.cell (i := 1) rfl
           have f1 := T6.out.2.frozen 1
           have t2 := T6.out.2.cell (i := 2) rfl
           have f2 := T6.out.2.frozen 2
           have t3 := T6.out.2.cell (i := 3) rfl
           have f3 := T6.out.2.frozen 3
           clear q6 tok2 _t))
    refine bodyPost_ret (v := .tuple #[.agg #[.int .i64 5, .string s, .int .i64 0, .int .i64 0], .bool true]) (by simp [results, Tryd.results49, go_sem, t0, t1, t2, t3]) rfl ⟨rfl, ?_⟩
    exact ((((T6.out.set 0 _).set 1 _).set 2 _).set 3 _).1.mono (Nat.le_refl _)
  · have hW : wholeV (bs s) = .tuple #[.agg #[.int .i64 5, .string s, .int .i64 0, .int .i64 0], .bool false] := by
      unfold wholeV wholeN
      rw [hno]
      simp only
      rw [if_neg h2, if_neg h3, if_neg h4]
      simp [txt_bs]
    have MB : Hid (decide (bs s ∈ marksL) = false) := Lib.hid (decide_eq_false h4)
    rw [hW]
    clear hW hno h2 h3 h3' h4
    go_enter Tryd.func49, Tryd.ntmps49
    go_wp2_with (first
        | (go_at_call 77
           refine (RN.out _).mono ?_
           rintro e w1 ⟨rfl, q1⟩
           have T1 : Hid (TokSt w w1 #[.int .i64 0, .string ⟨#[]⟩, .int .i64 0, .int .i64 0]) := Lib.hid ((TokSt.new w #[.int .i64 0, .string ⟨#[]⟩, .int .i64 0, .int .i64 0]).call q1)
           have t0 := T1.out.2.cell (i := 0) rfl
           have f0 := T1.out.2.frozen 0
           have t1 := T1.out.2.cell (i := 1) rfl
           have f1 := T1.out.2.frozen 1
           have t2 := T1.out.2.cell (i := 2) rfl
           have f2 := T1.out.2.frozen 2
           have t3 := T1.out.2.cell (i := 3) rfl
           have f3 := T1.out.2.frozen 3
           clear q1)
        | (go_at_call 80
           refine (WW.out _).mono ?_
           rintro e w2 ⟨rfl, h2⟩
           have T2 : Hid (TokSt w w2 #[.int .i64 0, .string ⟨#[]⟩, .int .i64 0, .int .i64 0]) := Lib.hid (by rw [h2]; exact T1.out.alloc _)
           clear t0 t1 t2 t3 f0 f1 f2 f3
           have t0 := T2.out.2.cell (i := 0) rfl
           have f0 := T2.out.2.frozen 0
           have t1 := T2.out.2.cell (i := 1) rfl
           have f1 := T2.out.2.frozen 1
           have t2 := T2.out.2.cell (i := 2) rfl
           have f2 := T2.out.2.frozen 2
           have t3 := T2.out.2.cell (i := 3) rfl
           have f3 := T2.out.2.frozen 3
           have S2 : Hid (SlR w2 w2.heap.size 1 IsTxt (.slice (some ⟨w1.heap.size, 0, none⟩) 22 22) wordsL) := Lib.hid (by rw [h2]; exact words_read w1)
           clear h2)
        | (go_at_call 79
           have _t := tok1
           refine (in_any s _ _ S2.out (Below.refl _ _)).mono ?_
           rw [WB.out]
           rintro e w3 ⟨rfl, q3⟩
           have T3 : Hid (TokSt w w3 #[.int .i64 0, .string ⟨#[]⟩, .int .i64 0, .int .i64 0]) := Lib.hid (T2.out.quiet q3)
           clear t0 t1 t2 t3 f0 f1 f2 f3
           have t0 := T3.out.2.cell (i := 0) rfl
           have f0 := T3.out.2.frozen 0
           have t1 := T3.out.2.cell (i := 1) rfl
           have f1 := T3.out.2.frozen 1
           have t2 := T3.out.2.cell (i := 2) rfl
           have f2 := T3.out.2.frozen 2
           have t3 := T3.out.2.cell (i := 3) rfl
           have f3 := T3.out.2.frozen 3
           clear q3 tok1 _t)
        | (go_at_call 68
           refine (RR.out _).mono ?_
           rintro e w4 ⟨rfl, q4⟩
           have T4 : Hid (TokSt w w4 #[.int .i64 0, .string ⟨#[]⟩, .int .i64 0, .int .i64 0]) := Lib.hid ((T3.out).quiet q4)
           clear t0 t1 t2 t3 f0 f1 f2 f3
           have t0 := T4.out.2.cell (i := 0) rfl
           have f0 := T4.out.2.frozen 0
           have t1 := T4.out.2.cell (i := 1) rfl
           have f1 := T4.out.2.frozen 1
           have t2 := T4.out.2.cell (i := 2) rfl
           have f2 := T4.out.2.frozen 2
           have t3 := T4.out.2.cell (i := 3) rfl
           have f3 := T4.out.2.frozen 3
           clear q4)
        | (go_at_call 78
           refine (MM.out _).mono ?_
           rintro e w5 ⟨rfl, h5⟩
           have T5 : Hid (TokSt w w5 #[.int .i64 0, .string ⟨#[]⟩, .int .i64 0, .int .i64 0]) := Lib.hid (by rw [h5]; exact T4.out.alloc _)
           clear t0 t1 t2 t3 f0 f1 f2 f3
           have t0 := T5.out.2.cell (i := 0) rfl
           have f0 := T5.out.2.frozen 0
           have t1 := T5.out.2.cell (i := 1) rfl
           have f1 := T5.out.2.frozen 1
           have t2 := T5.out.2.cell (i := 2) rfl
           have f2 := T5.out.2.frozen 2
           have t3 := T5.out.2.cell (i := 3) rfl
           have f3 := T5.out.2.frozen 3
           have S5 : Hid (SlR w5 w5.heap.size 1 IsTxt (.slice (some ⟨w4.heap.size, 0, none⟩) 16 16) marksL) := Lib.hid (by rw [h5]; exact marks_read w4)
           clear h5)
        | (go_at_call 79
           have _t := tok2
           refine (in_any s _ _ S5.out (Below.refl _ _)).mono ?_
           rw [MB.out]
           rintro e w6 ⟨rfl, q6⟩
           have T6 : Hid (TokSt w w6 #[.int .i64 0, .string ⟨#[]⟩, .int .i64 0, .int .i64 0]) := Lib.hid (T5.out.quiet q6)
           clear t0 t1 t2 t3 f0 f1 f2 f3
           have t0 := T6.out.2.cell (i := 0) rfl
           have f0 := T6.out.2.frozen 0
           have t1 := T6.out.2.cell (i := 1) rfl
           have f1 := T6.out.2.frozen 1
           have t2 := T6.out.2.cell (i := 2) rfl
           have f2 := T6.out.2.frozen 2
           have t3 := T6.out.2.cell (i := 3) rfl
           have f3 := T6.out.2.frozen 3
           clear q6 tok2 _t))
    refine bodyPost_ret (v := .tuple #[.agg #[.int .i64 5, .string s, .int .i64 0, .int .i64 0], .bool false]) (by simp [results, Tryd.results49, go_sem, t0, t1, t2, t3]) rfl ⟨rfl, ?_⟩
    exact ((((T6.out.set 0 _).set 1 _).set 2 _).set 3 _).1.mono (Nat.le_refl _)
end Go.Proofs.YtlenenfgedgmhaaDoor
