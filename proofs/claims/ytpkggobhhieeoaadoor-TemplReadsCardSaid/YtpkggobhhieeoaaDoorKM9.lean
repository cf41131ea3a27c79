/- - - -/
import Derived.Test.YtpkggobhhieeoaaDoorKM8
import Derived.Test.YtpkggobhhieeoaaDoorKM6
set_option maxRecDepth 100000
set_option maxHeartbeats 32000000
set_option linter.unusedSimpArgs false
set_option linter.unusedVariables false
namespace Go.Proofs.YtpkggobhhieeoaaDoor
open Go.RowKit
theorem intN_neg (D : List Nat) : intN (45 :: D) = if D = [] ∨ 19 < D.length ∨ D.head? = some 48 then none else if Digits D then (if 9223372036854775808 < val 0 D then none else some (-(val 0 D : Int))) else none := by
  unfold intN
  rw [if_pos (show (45 :: D).head? = some 45 from rfl)]
  rfl
theorem intN_pos (l : List Nat) (h : l.head? ≠ some 45) : intN l = if l = [] ∨ 19 < l.length ∨ (l.head? = some 48 ∧ 1 < l.length) then none else if Digits l then (if 9223372036854775807 < val 0 l then none else some (val 0 l : Int)) else none := by
  unfold intN
  rw [if_neg h]
theorem val_lt : ∀ (l : List Nat) (a n : Nat), Digits l → a < 10 ^ n → val a l < 10 ^ (n + l.length)
  | [], a, n, _, h => by simpa [val] using h
  | c :: l, a, n, hd, h => by
    have hc := hd c (by simp)
    have := val_lt l (10 * a + (c - 48)) (n + 1) (fun x hx => hd x (by simp [hx])) (by rw [Nat.pow_succ]; omega)
    have e : n + (c :: l).length = n + 1 + l.length := by simp; omega
    rw [e]
    exact this
theorem val_take {l : List Nat} {k c : Nat} (h : l[k]? = some c) : val 0 (l.take (k + 1)) = 10 * val 0 (l.take k) + (c - 48) := by
  have hk := (List.getElem?_eq_some_iff.1 h).1
  rw [List.take_succ_eq_append_getElem hk, (List.getElem?_eq_some_iff.1 h).2, val_app]
  rfl
theorem val_head {l : List Nat} (h1 : l ≠ []) (hd : Digits l) (h2 : l.head? ≠ some 48) : 0 < val 0 l := by
  rcases Nat.eq_zero_or_pos (val 0 l) with h0 | h0
  · have := dec_val _ l rfl h1 hd (Or.inl h2)
    rw [h0, dec_small (by omega)] at this
    rw [← this] at h2
    simp at h2
  · exact h0
theorem ref_int (s : ByteArray) (hs : s.size ≤ 281474976710656) (w : World) : Calls Tryd.prog 95 #[.string s] w fun e w' => e = .returned (intV (intN (bs s))) ∧ Below w.heap.size w w' := by
  by_cases h45 : (bs s)[0]? = some 45
  · have hz : 0 < s.size := by rw [← bs_len]; exact (List.getElem?_eq_some_iff.1 h45).1
    have i0 := fun W => index_txt W 9 Tryd.underlying9 h45 .i64 0 rfl
    obtain ⟨dS, hE⟩ : ∃ d, s.extract 1 s.size = d := ⟨_, rfl⟩
    obtain ⟨D, hbs⟩ : ∃ D, bs dS = D := ⟨_, rfl⟩
    have hsD : bs s = 45 :: D := by
      rw [← hbs, ← hE, bs_extract, List.take_of_length_le (by rw [bs_len]; exact Nat.le_refl _)]
      cases h : bs s with
      | nil => rw [h] at h45; simp at h45
      | cons b t => rw [h] at h45; simp at h45; subst h45; rfl
    have hint := (congrArg intN hsD).trans (intN_neg D)
    obtain ⟨m, hm⟩ : ∃ m, D.length = m := ⟨_, rfl⟩
    have hds : dS.size = m := by rw [← bs_len, hbs, hm]
    have hDb : Bytes D := by rw [← hbs]; exact bs_bytes dS
    have hget : ∀ k, k < m → ∃ c, D[k]? = some c ∧ c < 256 := fun k hk => by
      have := get_bs (s := dS) (k := k) (by omega)
      rwa [hbs] at this
    clear hsD
    have hN : intN (bs s) = if D = [] ∨ 19 < D.length ∨ D.head? = some 48 then none else if Digits D then (if 9223372036854775808 < val 0 D then none else some (-(val 0 D : Int))) else none := hint
    clear hint
    by_cases k1 : m = 0
    · subst k1
      have hD : D = [] := List.eq_nil_of_length_eq_zero hm
      have HN := zH (hN.trans (if_pos (Or.inl hD)))
      clear hN hD hm hDb
      go_enter Tryd.func95, Tryd.ntmps95
      go_wp2_with fail
      go_ret2
      exact ⟨by rw [HN.out]; rfl, zB⟩
    have k1' : ((m : Int) == 0) = false := by simp; omega
    obtain ⟨c0, hc0, c0256⟩ := hget 0 (by omega)
    have j0 := fun W => index_txt W 9 Tryd.underlying9 (hbs.symm ▸ hc0) .i64 0 rfl
    have hhead : D.head? = some c0 := by rw [List.head?_eq_getElem?]; exact hc0
    have J0 := zH j0
    clear j0
    by_cases k2 : 19 < m
    · have HN := zH (hN.trans (if_pos (Or.inr (Or.inl (by rw [hm]; exact k2)))))
      have j0 := J0.out
      clear hN hm hDb hhead hc0 hbs
      go_enter Tryd.func95, Tryd.ntmps95
      go_wp2_with fail
      go_ret2
      exact ⟨by rw [HN.out]; rfl, zB⟩
    have k2' : decide (19 < (m : Int)) = false := by simp; omega
    by_cases k3 : c0 = 48
    · subst k3
      have HN := zH (hN.trans (if_pos (Or.inr (Or.inr hhead))))
      have j0 := J0.out
      clear hN hm hDb hhead hc0 hbs
      go_enter Tryd.func95, Tryd.ntmps95
      go_wp2_with fail
      go_ret2
      exact ⟨by rw [HN.out]; rfl, zB⟩
    have k3' : ((c0 : Int) == 48) = false := by simp; omega
    have hcnd : ¬ (D = [] ∨ 19 < D.length ∨ D.head? = some 48) := by
      intro hx
      rcases hx with hx | hx | hx
      · rw [hx] at hm; simp at hm; exact k1 hm.symm
      · omega
      · rw [hhead] at hx; injection hx with hx; exact k3 hx
    have hposv : Digits D → 0 < val 0 D := fun hd => val_head (fun e => by rw [e] at hm; simp at hm; exact k1 hm.symm) hd (by rw [hhead]; simpa using k3)
    have Hpos := zH hposv
    clear hposv
    rw [if_neg hcnd] at hN
    clear hcnd hhead hc0
    have HNN := zH hN
    clear hN
    have HDb := zH hDb
    have Hm := zH hm
    have Hget := zH hget
    have Hbs := zH hbs
    clear hDb hm hget hbs
    have j0 := J0.out
    go_enter Tryd.func95, Tryd.ntmps95
    go_wp2_with fail
    go_loopw [7, 8] (fun nv i wr => ∃ (k : Nat) (a : Int), k ≤ m ∧ i = .int .i64 k ∧ nv = .int .u64 a ∧ 0 ≤ a ∧ a ≤ 9999999999999999999 ∧ Hid (a = (val 0 (D.take k) : Int) ∧ Digits (D.take k)) ∧ Quiet w wr) (fun _ i _ => m - (intOf i).toNat)
    case atStart => exact ⟨0, 0, by omega, rfl, rfl, by omega, by omega, ⟨by simp [val], fun c hc => by simp at hc⟩, Quiet.refl _⟩
    case round =>
      obtain ⟨k, a, hk, rfl, rfl, ha0, ha1, hinv, hq⟩ := hrel
      clear j0
      by_cases hlt : k < m
      · obtain ⟨c, hc, c256⟩ := Hget.out k hlt
        have i1 := fun W => index_txt W 9 Tryd.underlying9 (Hbs.out.symm ▸ hc) .i64 _ rfl
        have hkl := (List.getElem?_eq_some_iff.1 hc).1
        by_cases hcd : 48 ≤ c ∧ c ≤ 57
        · have HA := zH (fun W => among_any c ⟨#[48, 49, 50, 51, 52, 53, 54, 55, 56, 57]⟩ (by decide) W)
          have hmf : decide (c ∈ bs ⟨#[48, 49, 50, 51, 52, 53, 54, 55, 56, 57]⟩) = true := by rw [mem_figs]; simpa using hcd
          rw [hmf] at HA
          clear hmf
          have hvt := val_take hc
          have hdg : Digits (D.take (k + 1)) := by
            rw [List.take_succ_eq_append_getElem hkl, (List.getElem?_eq_some_iff.1 hc).2]
            intro x hx
            rcases List.mem_append.1 hx with hx | hx
            · exact hinv.out.2 x hx
            · simp at hx; omega
          have hlim : a ≤ 999999999999999999 := by
            have h1 := val_lt (D.take k) 0 0 hinv.out.2 (by omega)
            have h2 : (D.take k).length ≤ 18 := by have := List.length_take_le k D; omega
            have h3 : 10 ^ (0 + (D.take k).length) ≤ 10 ^ 18 := Nat.pow_le_pow_right (by omega) (by omega)
            have := hinv.out.1
            omega
          have hnew : 10 * a + ((c : Int) - 48) = (val 0 (D.take (k + 1)) : Int) := by rw [hvt, hinv.out.1]; omega
          have HV := zH (And.intro hnew hdg)
          obtain ⟨cc1, cc2⟩ := hcd
          clear hvt hdg hnew hc hkl
          go_wp2_with (go_at_call 59; refine (HA.out _).mono ?_; rintro e w1 ⟨rfl, q1⟩)
          go_roundw
          case rel => exact ⟨k + 1, 10 * a + ((c : Int) - 48), by omega, by go_num, by first | rfl | go_num, by omega, by omega, HV.out, hq.trans q1⟩
          case measure => simp [intOf]; omega
        · have HA := zH (fun W => among_any c ⟨#[48, 49, 50, 51, 52, 53, 54, 55, 56, 57]⟩ (by decide) W)
          have hmf : decide (c ∈ bs ⟨#[48, 49, 50, 51, 52, 53, 54, 55, 56, 57]⟩) = false := by rw [mem_figs]; simpa using hcd
          rw [hmf] at HA
          clear hmf
          have hnd : ¬ Digits D := fun hd => hcd (hd c (List.mem_iff_getElem?.2 ⟨k, hc⟩))
          have HN := zH (HNN.out.trans (if_neg hnd))
          clear hnd hc hkl hcd
          go_wp2_with (go_at_call 59; refine (HA.out _).mono ?_; rintro e w1 ⟨rfl, q1⟩)
          go_ret2
          exact ⟨by rw [HN.out]; rfl, (hq.trans q1).below _⟩
      · have hdec : decide (k < m) = false := by simp; omega
        have hall : D.take k = D := List.take_of_length_le (by rw [Hm.out]; omega)
        have hfin := hinv.out
        rw [hall] at hfin
        obtain ⟨hav, hdg⟩ := hfin
        have hN2 := HNN.out.trans (if_pos hdg)
        have hp : 1 ≤ a := by have := Hpos.out hdg; omega
        by_cases hbig : 9223372036854775808 < val 0 D
        · have HN := zH (hN2.trans (if_pos hbig))
          have hb1 : 9223372036854775808 < a := by omega
          clear hN2 hbig hav hdg hall
          go_wp2_with fail
          go_ret2
          exact ⟨by rw [HN.out]; rfl, hq.below _⟩
        · have HN := zH (hN2.trans (if_neg hbig))
          have hb1 : a ≤ 9223372036854775808 := by omega
          have Hav := zH hav
          clear hN2 hbig hav hdg hall
          go_wp2_with fail
          go_ret2
          refine ⟨?_, hq.below _⟩
          rw [HN.out, ← Hav.out]
          show Ending.returned (Value.tuple #[_, _]) = Ending.returned (Value.tuple #[_, _])
          first | rfl | (congr 3; first | rfl | go_num | (congr 1; omega))
  · have hb : (bs s).head? ≠ some 45 := by rw [List.head?_eq_getElem?]; exact h45
    obtain ⟨D, hbs⟩ : ∃ D, bs s = D := ⟨_, rfl⟩
    have hint := (congrArg intN hbs).trans (intN_pos D (hbs ▸ hb))
    obtain ⟨m, hm⟩ : ∃ m, D.length = m := ⟨_, rfl⟩
    have hds : s.size = m := by rw [← bs_len, hbs, hm]
    have hDb : Bytes D := by rw [← hbs]; exact bs_bytes s
    have hget : ∀ k, k < m → ∃ c, D[k]? = some c ∧ c < 256 := fun k hk => by
      have := get_bs (s := s) (k := k) (by omega)
      rwa [hbs] at this
    have hfirst : ∀ c0 : Nat, D[0]? = some c0 → ((c0 : Int) == 45) = false := by
      intro c0 h
      rw [hbs] at h45
      have : c0 ≠ 45 := fun e => h45 (by rw [h, e])
      simp; omega
    have hN : intN (bs s) = if D = [] ∨ 19 < D.length ∨ (D.head? = some 48 ∧ 1 < D.length) then none else if Digits D then (if 9223372036854775807 < val 0 D then none else some (val 0 D : Int)) else none := hint
    clear hint
    by_cases k1 : m = 0
    · subst k1
      have hD : D = [] := List.eq_nil_of_length_eq_zero hm
      have HN := zH (hN.trans (if_pos (Or.inl hD)))
      clear hN hD hm hDb
      go_enter Tryd.func95, Tryd.ntmps95
      go_wp2_with fail
      go_ret2
      exact ⟨by rw [HN.out]; rfl, zB⟩
    have k1' : ((m : Int) == 0) = false := by simp; omega
    obtain ⟨c0, hc0, c0256⟩ := hget 0 (by omega)
    have j0 := fun W => index_txt W 9 Tryd.underlying9 (hbs.symm ▸ hc0) .i64 0 rfl
    have c045 := hfirst c0 hc0
    have hhead : D.head? = some c0 := by rw [List.head?_eq_getElem?]; exact hc0
    have J0 := zH j0
    clear j0
    by_cases k2 : 19 < m
    · have HN := zH (hN.trans (if_pos (Or.inr (Or.inl (by rw [hm]; exact k2)))))
      have j0 := J0.out
      clear hN hm hDb hhead hc0 hbs
      go_enter Tryd.func95, Tryd.ntmps95
      go_wp2_with fail
      go_ret2
      exact ⟨by rw [HN.out]; rfl, zB⟩
    have k2' : decide (19 < (m : Int)) = false := by simp; omega
    by_cases k3 : c0 = 48 ∧ 1 < m
    · obtain ⟨rfl, k3⟩ := k3
      have HN := zH (hN.trans (if_pos (Or.inr (Or.inr ⟨hhead, by rw [hm]; exact k3⟩))))
      have j0 := J0.out
      clear hN hm hDb hhead hc0 hbs
      go_enter Tryd.func95, Tryd.ntmps95
      go_wp2_with fail
      go_ret2
      exact ⟨by rw [HN.out]; rfl, zB⟩
    have hcnd : ¬ (D = [] ∨ 19 < D.length ∨ (D.head? = some 48 ∧ 1 < D.length)) := by
      intro hx
      rcases hx with hx | hx | ⟨hx, hy⟩
      · rw [hx] at hm; simp at hm; exact k1 hm.symm
      · omega
      · rw [hhead] at hx; injection hx with hx; exact k3 ⟨hx, by omega⟩
    rw [if_neg hcnd] at hN
    clear hcnd hhead hc0
    have k3' : (((c0 : Int) == 48) = false) ∨ (c0 = 48 ∧ m = 1) := by
      by_cases e : c0 = 48
      · exact Or.inr ⟨e, by omega⟩
      · left; simp; omega
    clear k3
    have HNN := zH hN
    clear hN
    have HDb := zH hDb
    have Hm := zH hm
    have Hget := zH hget
    have Hbs := zH hbs
    clear hDb hm hget hbs
    rcases k3' with k3' | ⟨rfl, k3'⟩
    all_goals
      have j0 := J0.out
      go_enter Tryd.func95, Tryd.ntmps95
      go_wp2_with fail
      go_loopw [7, 8] (fun nv i wr => ∃ (k : Nat) (a : Int), k ≤ m ∧ i = .int .i64 k ∧ nv = .int .u64 a ∧ 0 ≤ a ∧ a ≤ 9999999999999999999 ∧ Hid (a = (val 0 (D.take k) : Int) ∧ Digits (D.take k)) ∧ Quiet w wr) (fun _ i _ => m - (intOf i).toNat)
      case atStart => exact ⟨0, 0, by omega, rfl, rfl, by omega, by omega, ⟨by simp [val], fun c hc => by simp at hc⟩, Quiet.refl _⟩
      case round =>
        obtain ⟨k, a, hk, rfl, rfl, ha0, ha1, hinv, hq⟩ := hrel
        clear j0
        by_cases hlt : k < m
        · obtain ⟨c, hc, c256⟩ := Hget.out k hlt
          have i1 := fun W => index_txt W 9 Tryd.underlying9 (Hbs.out.symm ▸ hc) .i64 _ rfl
          have hkl := (List.getElem?_eq_some_iff.1 hc).1
          by_cases hcd : 48 ≤ c ∧ c ≤ 57
          · have HA := zH (fun W => among_any c ⟨#[48, 49, 50, 51, 52, 53, 54, 55, 56, 57]⟩ (by decide) W)
            have hmf : decide (c ∈ bs ⟨#[48, 49, 50, 51, 52, 53, 54, 55, 56, 57]⟩) = true := by rw [mem_figs]; simpa using hcd
            rw [hmf] at HA
            clear hmf
            have hvt := val_take hc
            have hdg : Digits (D.take (k + 1)) := by
              rw [List.take_succ_eq_append_getElem hkl, (List.getElem?_eq_some_iff.1 hc).2]
              intro x hx
              rcases List.mem_append.1 hx with hx | hx
              · exact hinv.out.2 x hx
              · simp at hx; omega
            have hlim : a ≤ 999999999999999999 := by
              have h1 := val_lt (D.take k) 0 0 hinv.out.2 (by omega)
              have h2 : (D.take k).length ≤ 18 := by have := List.length_take_le k D; omega
              have h3 : 10 ^ (0 + (D.take k).length) ≤ 10 ^ 18 := Nat.pow_le_pow_right (by omega) (by omega)
              have := hinv.out.1
              omega
            have hnew : 10 * a + ((c : Int) - 48) = (val 0 (D.take (k + 1)) : Int) := by rw [hvt, hinv.out.1]; omega
            have HV := zH (And.intro hnew hdg)
            obtain ⟨cc1, cc2⟩ := hcd
            clear hvt hdg hnew hc hkl
            go_wp2_with (go_at_call 59; refine (HA.out _).mono ?_; rintro e w1 ⟨rfl, q1⟩)
            go_roundw
            case rel => exact ⟨k + 1, 10 * a + ((c : Int) - 48), by omega, by go_num, by first | rfl | go_num, by omega, by omega, HV.out, hq.trans q1⟩
            case measure => simp [intOf]; omega
          · have HA := zH (fun W => among_any c ⟨#[48, 49, 50, 51, 52, 53, 54, 55, 56, 57]⟩ (by decide) W)
            have hmf : decide (c ∈ bs ⟨#[48, 49, 50, 51, 52, 53, 54, 55, 56, 57]⟩) = false := by rw [mem_figs]; simpa using hcd
            rw [hmf] at HA
            clear hmf
            have hnd : ¬ Digits D := fun hd => hcd (hd c (List.mem_iff_getElem?.2 ⟨k, hc⟩))
            have HN := zH (HNN.out.trans (if_neg hnd))
            clear hnd hc hkl hcd
            go_wp2_with (go_at_call 59; refine (HA.out _).mono ?_; rintro e w1 ⟨rfl, q1⟩)
            go_ret2
            exact ⟨by rw [HN.out]; rfl, (hq.trans q1).below _⟩
        · have hdec : decide (k < m) = false := by simp; omega
          have hall : D.take k = D := List.take_of_length_le (by rw [Hm.out]; omega)
          have hfin := hinv.out
          rw [hall] at hfin
          obtain ⟨hav, hdg⟩ := hfin
          have hN2 := HNN.out.trans (if_pos hdg)
          by_cases hbig : 9223372036854775807 < val 0 D
          · have HN := zH (hN2.trans (if_pos hbig))
            have hb1 : 9223372036854775807 < a := by omega
            clear hN2 hbig hav hdg hall
            go_wp2_with fail
            go_ret2
            exact ⟨by rw [HN.out]; rfl, hq.below _⟩
          · have HN := zH (hN2.trans (if_neg hbig))
            have hb1 : a ≤ 9223372036854775807 := by omega
            have Hav := zH hav
            clear hN2 hbig hav hdg hall
            go_wp2_with fail
            go_ret2
            refine ⟨?_, hq.below _⟩
            rw [HN.out, ← Hav.out]
            show Ending.returned (Value.tuple #[_, _]) = Ending.returned (Value.tuple #[_, _])
            first | rfl | (congr 3; first | rfl | go_num | (congr 1; omega))
end Go.Proofs.YtpkggobhhieeoaaDoor
namespace Go.Proofs.YtpkggobhhieeoaaDoor
open Go.RowKit
theorem common_take : ∀ (l m : List Nat) (j : Nat), l.length ≤ j → common l (m.take j) = common l m
  | [], m, j, _ => by cases m.take j <;> cases m <;> simp [common]
  | a :: l, [], j, _ => by simp
  | a :: l, b :: m, 0, h => by simp at h
  | a :: l, b :: m, j + 1, h => by
    simp only [List.take_succ_cons, common]
    rw [common_take l m j (by simp at h; omega)]
theorem common_self : ∀ (l t : List Nat), common l (l ++ t) = l.length
  | [], t => by cases t <;> simp [common]
  | a :: l, t => by simp [common, common_self l t]
theorem none_fits {r : List Nat} (hr : Bytes r) (h34 : r.head? ≠ some 34) {fr : Nat} (h1 : ∀ c, c < 256 → common (formN c) (r.take 4) ≤ fr) (h2 : fr = 0 ∨ ∃ c, c < 256 ∧ common (formN c) (r.take 4) = fr) (h3 : ∀ c, c < 256 → common (formN c) (r.take 4) ≠ (formN c).length) : one r = (none, fr) := by
  have e : ∀ c, common (formN c) (r.take 4) = common (formN c) r := fun c => common_take _ _ _ (form_len c).2
  simp only [e] at h1 h2 h3
  rcases ho : one r with ⟨_ | ⟨c, n⟩, m⟩
  · obtain ⟨g1, c, g2, g3⟩ := one_none hr ho
    have : m = fr := by
      have a := h1 c g2
      rcases h2 with h2 | ⟨c', h2, h2'⟩
      · omega
      · have b := g1 c' h2; omega
    rw [this]
  · obtain ⟨g1, _, t, g2⟩ := one_some hr h34 ho
    exact absurd (by rw [g2]; exact common_self _ _) (h3 c g1)
theorem far_step {r : List Nat} {cN fr m : Nat} (h : (∀ c', c' < cN → common (formN c') r ≤ fr) ∧ (fr = 0 ∨ ∃ c', c' < cN ∧ common (formN c') r = fr) ∧ (∀ c', c' < cN → common (formN c') r ≠ (formN c').length)) (hm : common (formN cN) r = m) (hf : ¬ m = (formN cN).length) :
    (∀ c', c' < cN + 1 → common (formN c') r ≤ max fr m) ∧ (max fr m = 0 ∨ ∃ c', c' < cN + 1 ∧ common (formN c') r = max fr m) ∧ (∀ c', c' < cN + 1 → common (formN c') r ≠ (formN c').length) := by
  obtain ⟨h1, h2, h3⟩ := h
  refine ⟨fun c hc => ?_, ?_, fun c hc => ?_⟩
  · by_cases e : c = cN
    · subst e; omega
    · have := h1 c (by omega); omega
  · by_cases e : fr ≤ m
    · right
      exact ⟨cN, by omega, by omega⟩
    · rcases h2 with h2 | ⟨c, h2, h2'⟩
      · omega
      · right
        exact ⟨c, by omega, by omega⟩
  · by_cases e : c = cN
    · subst e; rw [hm]; exact hf
    · exact h3 c (by omega)
theorem ref_unquote (s : ByteArray) (a : Int) (ha : (Lit.int .i64 a).wf = true) (hs : s.size ≤ 1048576) (w : World) : Calls Tryd.prog 32 #[.string s, .int .i64 a] w fun e w' => e = .returned (unqV (unquoteN (bs s) a)) ∧ Below w.heap.size w w' := by
  obtain ⟨j, hi, hz, hsz, hby⟩ := info_parts info_byte
  have I := zH (And.intro hi (And.intro hz (And.intro hsz hby)))
  clear hi hz hsz hby
  obtain ⟨n, hn⟩ : ∃ n, s.size = n := ⟨_, rfl⟩
  have Hn := zH hn
  have hln : (bs s).length = n := by rw [bs_len, hn]
  have Hln := zH hln
  rw [hn] at hs
  have hn' : (s.size : Int) = (n : Int) := by rw [hn]
  clear hn
  by_cases h1 : a < 0
  · have hv : unquoteN (bs s) a = ([], 0, 2) := by simp [unquoteN, h1]
    have HV := zH hv
    clear hv hln
    go_enter Tryd.func32, Tryd.ntmps32
    go_wp2_with fail
    go_ret3
    exact ⟨by rw [HV.out]; rfl, zB⟩
  have d1 : decide (a < 0) = false := by simpa using h1
  by_cases h2 : (n : Int) < a
  · have hv : unquoteN (bs s) a = ([], 0, 2) := by simp [unquoteN, hln, h2]
    have HV := zH hv
    clear hv hln
    go_enter Tryd.func32, Tryd.ntmps32
    go_wp2_with fail
    go_ret3
    exact ⟨by rw [HV.out]; rfl, zB⟩
  have d2 : decide ((n : Int) < a) = false := by simpa using h2
  obtain ⟨k0, rfl⟩ : ∃ k : Nat, a = (k : Int) := ⟨a.toNat, by omega⟩
  have hgate : unquoteN (bs s) k0 = if (bs s)[k0]? ≠ some 34 then ([], (k0 : Int), 10) else ((unq (bs s) (n + 1) (k0 + 1) []).1, ((unq (bs s) (n + 1) (k0 + 1) []).2.1 : Int), (unq (bs s) (n + 1) (k0 + 1) []).2.2) := by
    unfold unquoteN
    rw [if_neg (by rw [hln]; omega), hln]
    rfl
  have d2' : decide (n < k0) = false := by simp; omega
  by_cases h3 : k0 = n
  · subst h3
    have hv : unquoteN (bs s) k0 = ([], (k0 : Int), 10) := by
      rw [hgate, if_pos (by rw [List.getElem?_eq_none (by omega)]; simp)]
    have HV := zH hv
    clear hv hln hgate
    go_enter Tryd.func32, Tryd.ntmps32
    go_wp2_with fail
    go_ret3
    exact ⟨by rw [HV.out]; rfl, zB⟩
  have d3 : ((k0 : Int) == (n : Int)) = false := by simp; omega
  have hk0 : k0 < s.size := by omega
  have b0 : (0 : Int) ≤ (k0 : Int) := Int.natCast_nonneg _
  obtain ⟨c0, hc0, c0256⟩ := get_bs hk0
  have i0 := fun W => index_txt W 9 Tryd.underlying9 hc0 .i64 _ rfl
  by_cases h4 : c0 = 34
  · subst h4
    rw [hc0, if_neg (by simp)] at hgate
    have HG := zH hgate
    generalize hRR : unq (bs s) (n + 1) (k0 + 1) [] = R at HG
    have HR := zH hRR
    have I0 := zH i0
    clear hgate hc0 hRR hln i0
    have i0 := I0.out
    go_enter Tryd.func32, Tryd.ntmps32
    go_wp2_with fail
    go_loopw [7, 8] (fun o i wr => ∃ (k f : Nat) (out : List Nat), k ≤ n ∧ n < f + k ∧ i = .int .i64 k ∧ Hid (unq (bs s) f k out = R) ∧ Below w.heap.size w wr ∧ Hid (Own1 wr w.heap.size 5 1 IsByte o out ∧ out.length ≤ k)) (fun _ i _ => n - (intOf i).toNat)
    case atStart => exact ⟨k0 + 1, n + 1, [], by omega, by omega, by go_num, HR.out, zB, ⟨[], World.ownsRow_nil _ _ _ _, FlatR.nil_⟩, by simp⟩
    case round =>
      obtain ⟨k, f, out, hk, hf, rfl, hu, hb, ho⟩ := hrel
      clear i0 I0
      have b1 : (0 : Int) ≤ (k : Int) := Int.natCast_nonneg _
      by_cases hq : k < n ∧ (bs s)[k]? = some 34
      · obtain ⟨hlt, hc⟩ := hq
        have i1 := fun W => index_txt W 9 Tryd.underlying9 hc .i64 _ rfl
        have hv := unq_end hu.out (by omega) hc
        have HV := zH hv
        have hcv := run_text_of_row 50 9 5 Tryd.underlying50 Tryd.underlying5 Tryd.underlying9 ho.out.1
        clear hv hc
        go_wp2_with fail
        (try simp only [Exit.inBlock, Exit.then, Exit.noGoto_ret])
        go_ret3
        exact ⟨by rw [HG.out, HV.out]; rfl, hb⟩
      · have hcase : (∃ c, k < n ∧ n ≤ k + 4 ∧ (bs s)[k]? = some c ∧ c ≠ 34) ∨ (∃ c, k < n ∧ k + 4 < n ∧ (bs s)[k]? = some c ∧ c ≠ 34) ∨ k = n := by
          by_cases hlt : k < n
          · obtain ⟨c, hc, c256⟩ := get_bs (s := s) (k := k) (by omega)
            have hc34 : c ≠ 34 := fun e => hq ⟨hlt, by rw [hc, e]⟩
            by_cases h : n ≤ k + 4
            · exact Or.inl ⟨c, hlt, h, hc, hc34⟩
            · exact Or.inr (Or.inl ⟨c, hlt, by omega, hc, hc34⟩)
          · right; right; omega
        have h34 : (bs s)[k]? ≠ some 34 := by
          intro e
          refine hq ⟨?_, e⟩
          have := (List.getElem?_eq_some_iff.1 e).1
          rw [Hln.out] at this
          exact this
        clear hq
        have hd34 : ((bs s).drop k).head? ≠ some 34 := by rw [List.head?_drop]; exact h34
        have H34 := zH (And.intro h34 hd34)
        have hr1 : n ≤ k + 4 → bs (s.extract k n) = ((bs s).drop k).take 4 := by
          intro h
          rw [bs_extract, List.take_drop, List.take_of_length_le (by rw [Hln.out]; exact Nat.le_refl _), List.take_of_length_le (by rw [Hln.out]; omega)]
        have hr2 : bs (s.extract k (k + 4)) = ((bs s).drop k).take 4 := by
          rw [bs_extract, List.take_drop]
        have hk4 : ((k : Int) + 4).toNat = k + 4 := by omega
        have ht4 : (((bs s).drop k).take 4).length ≤ 4 := List.length_take_le _ _
        generalize hrr : ((bs s).drop k).take 4 = r at *
        have Hrr := zH hrr
        have Hol := zH ho.out.2
        have Ho := zH ho.out.1
        clear h34 hd34 hrr ho
        have hgo : ∃ ρ : ByteArray, bs ρ = r ∧ ((∃ c, k < n ∧ n ≤ k + 4 ∧ (bs s)[k]? = some c ∧ c ≠ 34 ∧ s.extract k n = ρ) ∨ (∃ c, k < n ∧ k + 4 < n ∧ (bs s)[k]? = some c ∧ c ≠ 34 ∧ s.extract k (k + 4) = ρ) ∨ (k = n ∧ s.extract k n = ρ)) := by
          rcases hcase with ⟨c, g1, g2, g3, g4⟩ | ⟨c, g1, g2, g3, g4⟩ | g
          · exact ⟨_, hr1 g2, Or.inl ⟨c, g1, g2, g3, g4, rfl⟩⟩
          · exact ⟨_, hr2, Or.inr (Or.inl ⟨c, g1, g2, g3, g4, rfl⟩)⟩
          · exact ⟨_, hr1 (by omega), Or.inr (Or.inr ⟨g, rfl⟩)⟩
        clear hcase hr1 hr2
        obtain ⟨ρ, hρ, hgo⟩ := hgo
        have Hρ := zH hρ
        have hρs : ρ.size ≤ maxLen := by rw [← bs_len, hρ]; unfold maxLen; omega
        have Hρs := zH hρs
        clear hρ hρs ht4
        rcases hgo with ⟨c, g1, g2, g3, g4, g5⟩ | ⟨c, g1, g2, g3, g4, g5⟩ | ⟨g, g5⟩
        · have i1 := fun W => index_txt W 9 Tryd.underlying9 g3 .i64 _ rfl
          have e1 : ((c : Int) == 34) = false := by simp; omega
          have m1 : (n : Int) ≤ (k : Int) + 4 := by omega
          have gd1 : decide (k < n) = true := by simp; omega
          clear g3 g4
          go_wp2_with fail
          go_hide hQ
          go_loopw [7, 8, 9, 10, 12] (fun o i far tk cv wr => ∃ cN fr : Nat, cN ≤ 256 ∧ cv = .int .i64 cN ∧ far = .int .i64 fr ∧ fr ≤ 4 ∧ Below w.heap.size w wr ∧ ((tk = .bool false ∧ i = .int .i64 k ∧ Hid ((∀ c', c' < cN → common (formN c') r ≤ fr) ∧ (fr = 0 ∨ ∃ c', c' < cN ∧ common (formN c') r = fr) ∧ (∀ c', c' < cN → common (formN c') r ≠ (formN c').length)) ∧ Hid (Own1 wr w.heap.size 5 1 IsByte o out)) ∨ (tk = .bool true ∧ ∃ c0 : Nat, c0 < 256 ∧ i = .int .i64 ((k + (formN c0).length : Nat) : Int) ∧ Hid (∃ t, r = formN c0 ++ t) ∧ Hid (Own1 wr w.heap.size 5 1 IsByte o (out ++ [c0]))))) (fun _ _ _ _ cv _ => 256 - (intOf cv).toNat)
          case atStart => exact ⟨0, 0, by omega, rfl, rfl, by omega, hb, Or.inl ⟨rfl, rfl, ⟨fun _ h => absurd h (by omega), Or.inl rfl, fun _ h => absurd h (by omega)⟩, Ho.out⟩⟩
          case round =>
            clear Ho hb
            obtain ⟨cN, fr, hcN, rfl, rfl, hfr, hb, hst⟩ := hrel
            have hbz := hb.size
            rcases hst with ⟨rfl, rfl, hinv, ho⟩ | ⟨rfl, cc, cc256, rfl, hpre, ho⟩
            · by_cases hlt2 : cN < 256
              · have HF := zH (fun W => form_any cN hlt2 W)
                have hL := form_len cN
                have hfb := bs_txt (formN_bytes cN hlt2)
                have hfs : (txt (formN cN)).size = (formN cN).length := txt_size _
                have hcl := common_le_left (formN cN) r
                have hcf := common_full (formN cN) r
                have Hcf := zH hcf
                obtain ⟨τ, hτ⟩ : ∃ τ, txt (formN cN) = τ := ⟨_, rfl⟩
                rw [hτ] at HF hfb hfs
                obtain ⟨L, hLL⟩ : ∃ L, (formN cN).length = L := ⟨_, rfl⟩
                rw [hLL] at hL hfs hcl
                have hτs : τ.size ≤ maxLen := by unfold maxLen; omega
                have HC : Hid (∀ W, Calls Tryd.prog 44 #[.string τ, .string ρ] W fun e w' => e = .returned (.int .i64 (common (formN cN) r : Int)) ∧ Quiet W w') := zH (fun W => by have := common_any τ ρ hτs Hρs.out W; rw [hfb, Hρ.out] at this; exact this)
                obtain ⟨m, hm⟩ : ∃ m, common (formN cN) r = m := ⟨_, rfl⟩
                rw [hm] at HC hcl
                have HL := zH hLL
                have HM := zH hm
                clear hcf hfb hτ hτs hLL hm
                have hwrap : (cN : Int) % 256 = (cN : Int) := by omega
                have hmx : fr ≤ m ∨ (m < fr ∧ ¬ fr ≤ m) := by omega
                by_cases hfull : m = L
                · have hf1 : ((m : Int) == (L : Int)) = true := by simp; omega
                  rcases hmx with hmx | ⟨hmx, hmx'⟩
                  all_goals
                    go_wp2_with (first
                      | (go_at_call 43; refine (HF.out _).mono ?_; rintro e w1 ⟨rfl, hb1⟩
                         have ho1 : Hid (Own1 w1 w.heap.size 5 1 IsByte u7 out) := ho.out.below hb1 zL
                         have hbb1 : Below w.heap.size w w1 := hb.trans (hb1.mono hb.size)
                         clear hb1 ho hb)
                      | (go_at_call 44; refine (HC.out _).mono ?_; rintro e w2 ⟨rfl, qq⟩
                         have ho2 : Hid (Own1 w2 w.heap.size 5 1 IsByte u7 out) := by
                           obtain ⟨q, rfl⟩ := qq
                           exact ho1.out.drewN q
                         have hb2 : Below w.heap.size w w2 := by
                           obtain ⟨q, rfl⟩ := qq
                           exact below_drewN hbb1 q
                         have hz2 := hb2.size
                         clear qq ho1 hbb1)
                      | (at_builtin
                         go_must (refine wpList_append_bytes rfl (.tmp 79) (.tmp 82) _ rfl w.heap.size (w2.heap.size + 1) 5 j Tryd.underlying50 I.out.1 I.out.2.1 I.out.2.2.1 I.out.2.2.2 (l := out) (m := [cN]) u7 rfl (by exact ho2.out.alloc _) (some ⟨w2.heap.size, 0, none⟩) 1 1 rfl (by exact bytes_row (xs := [.int .u8 (cN : Int)]) rfl rfl (fun m hm => by simp at hm; omega) (by simp [maxLen]) 1 1 rfl rfl) (by have := Hol.out; omega) (by rw [World.size_alloc]; omega) ?_)
                         intro xa xn xc w4 hown hb4
                         have hbb : Below w.heap.size w w4 := (hb2.alloc (by omega) _).trans hb4))
                    go_roundw
                    case rel => exact ⟨cN + 1, max fr m, by omega, by go_num, by first | (congr 1; omega) | (simp; omega), by omega, hbb, Or.inr ⟨rfl, cN, hlt2, by rw [HL.out, ← hfull]; go_num, Hcf.out (by rw [HM.out, HL.out, hfull]), hown⟩⟩
                    case measure => simp [intOf]; omega
                · have hf1 : ((m : Int) == (L : Int)) = false := by simp; omega
                  rcases hmx with hmx | ⟨hmx, hmx'⟩
                  all_goals
                    go_wp2_with (first
                      | (go_at_call 43; refine (HF.out _).mono ?_; rintro e w1 ⟨rfl, hb1⟩
                         have ho1 : Hid (Own1 w1 w.heap.size 5 1 IsByte u7 out) := ho.out.below hb1 zL
                         have hbb1 : Below w.heap.size w w1 := hb.trans (hb1.mono hb.size)
                         clear hb1 ho hb)
                      | (go_at_call 44; refine (HC.out _).mono ?_; rintro e w2 ⟨rfl, qq⟩
                         have ho2 : Hid (Own1 w2 w.heap.size 5 1 IsByte u7 out) := by
                           obtain ⟨q, rfl⟩ := qq
                           exact ho1.out.drewN q
                         have hb2 : Below w.heap.size w w2 := by
                           obtain ⟨q, rfl⟩ := qq
                           exact below_drewN hbb1 q
                         clear qq ho1 hbb1))
                    go_roundw
                    case rel => exact ⟨cN + 1, max fr m, by omega, by go_num, by first | (congr 1; omega) | (simp; omega), by omega, hb2, Or.inl ⟨rfl, rfl, far_step hinv.out HM.out (by rw [HL.out]; exact hfull), ho2.out⟩⟩
                    case measure => simp [intOf]; omega
              · have hcN' : cN = 256 := by omega
                subst hcN'
                have hone := none_fits (r := (bs s).drop k) (fr := fr) (fun m hm => bs_bytes s m (List.mem_of_mem_drop hm)) H34.out.2 (by rw [Hrr.out]; exact hinv.out.1) (by rw [Hrr.out]; exact hinv.out.2.1) (by rw [Hrr.out]; exact hinv.out.2.2)
                have hv := unq_stop hu.out (by omega) H34.out.1 hone
                have HV := zH hv
                clear hv hone
                go_wp2_with fail
                subst hQ
                go_wp2_with fail
                (try simp only [Exit.inBlock, Exit.then])
                go_ret3
                exact ⟨by rw [HG.out, HV.out]; simp [unqV, txt] <;> omega, hb⟩
            · obtain ⟨L, hLL⟩ : ∃ L, (formN cc).length = L := ⟨_, rfl⟩
              have hL := form_len cc
              have hstep : unq (bs s) (f - 1) (k + L) (out ++ [cc]) = R := by
                obtain ⟨t, ht⟩ := hpre.out
                have hd : (bs s).drop k = formN cc ++ (t ++ ((bs s).drop k).drop 4) := by
                  rw [← List.append_assoc, ← ht, ← Hrr.out, List.take_append_drop]
                have h1 := one_of_form cc256 (t ++ ((bs s).drop k).drop 4)
                rw [← hd, hLL] at h1
                exact unq_step hu.out (by omega) H34.out.1 h1
              have hkn : k + L ≤ n := by
                obtain ⟨t, ht⟩ := hpre.out
                have := congrArg List.length ht
                rw [← Hrr.out, List.length_take, List.length_drop, Hln.out, List.length_append, hLL] at this
                omega
              rw [hLL] at hL
              have HS := zH hstep
              have hLL' : (k + (formN cc).length : Nat) = k + L := by rw [hLL]
              have HLL := zH hLL'
              have hout : (out ++ [cc]).length ≤ k + L := by have := Hol.out; simp; omega
              have Hout := zH hout
              clear hstep hout hLL'
              have hc2 : cN < 256 ∨ ¬ cN < 256 := by omega
              rcases hc2 with hc2 | hc2
              all_goals
                go_wp2_with fail
                subst hQ
                go_wp2_with fail
                go_roundw
                case rel => exact ⟨k + L, f - 1, out ++ [cc], hkn, by omega, by go_num, HS.out, hb, ho.out, Hout.out⟩
                case measure => simp [intOf]; omega
        · have i1 := fun W => index_txt W 9 Tryd.underlying9 g3 .i64 _ rfl
          have e1 : ((c : Int) == 34) = false := by simp; omega
          have m1 : ¬ (n : Int) ≤ (k : Int) + 4 := by omega
          have m2 : (k : Int) + 4 ≤ (n : Int) := by omega
          have gd1 : decide (k < n) = true := by simp; omega
          clear g3 g4
          go_wp2_with fail
          go_hide hQ
          go_loopw [7, 8, 9, 10, 12] (fun o i far tk cv wr => ∃ cN fr : Nat, cN ≤ 256 ∧ cv = .int .i64 cN ∧ far = .int .i64 fr ∧ fr ≤ 4 ∧ Below w.heap.size w wr ∧ ((tk = .bool false ∧ i = .int .i64 k ∧ Hid ((∀ c', c' < cN → common (formN c') r ≤ fr) ∧ (fr = 0 ∨ ∃ c', c' < cN ∧ common (formN c') r = fr) ∧ (∀ c', c' < cN → common (formN c') r ≠ (formN c').length)) ∧ Hid (Own1 wr w.heap.size 5 1 IsByte o out)) ∨ (tk = .bool true ∧ ∃ c0 : Nat, c0 < 256 ∧ i = .int .i64 ((k + (formN c0).length : Nat) : Int) ∧ Hid (∃ t, r = formN c0 ++ t) ∧ Hid (Own1 wr w.heap.size 5 1 IsByte o (out ++ [c0]))))) (fun _ _ _ _ cv _ => 256 - (intOf cv).toNat)
          case atStart => exact ⟨0, 0, by omega, rfl, rfl, by omega, hb, Or.inl ⟨rfl, rfl, ⟨fun _ h => absurd h (by omega), Or.inl rfl, fun _ h => absurd h (by omega)⟩, Ho.out⟩⟩
          case round =>
            clear Ho hb
            obtain ⟨cN, fr, hcN, rfl, rfl, hfr, hb, hst⟩ := hrel
            have hbz := hb.size
            rcases hst with ⟨rfl, rfl, hinv, ho⟩ | ⟨rfl, cc, cc256, rfl, hpre, ho⟩
            · by_cases hlt2 : cN < 256
              · have HF := zH (fun W => form_any cN hlt2 W)
                have hL := form_len cN
                have hfb := bs_txt (formN_bytes cN hlt2)
                have hfs : (txt (formN cN)).size = (formN cN).length := txt_size _
                have hcl := common_le_left (formN cN) r
                have hcf := common_full (formN cN) r
                have Hcf := zH hcf
                obtain ⟨τ, hτ⟩ : ∃ τ, txt (formN cN) = τ := ⟨_, rfl⟩
                rw [hτ] at HF hfb hfs
                obtain ⟨L, hLL⟩ : ∃ L, (formN cN).length = L := ⟨_, rfl⟩
                rw [hLL] at hL hfs hcl
                have hτs : τ.size ≤ maxLen := by unfold maxLen; omega
                have HC : Hid (∀ W, Calls Tryd.prog 44 #[.string τ, .string ρ] W fun e w' => e = .returned (.int .i64 (common (formN cN) r : Int)) ∧ Quiet W w') := zH (fun W => by have := common_any τ ρ hτs Hρs.out W; rw [hfb, Hρ.out] at this; exact this)
                obtain ⟨m, hm⟩ : ∃ m, common (formN cN) r = m := ⟨_, rfl⟩
                rw [hm] at HC hcl
                have HL := zH hLL
                have HM := zH hm
                clear hcf hfb hτ hτs hLL hm
                have hwrap : (cN : Int) % 256 = (cN : Int) := by omega
                have hmx : fr ≤ m ∨ (m < fr ∧ ¬ fr ≤ m) := by omega
                by_cases hfull : m = L
                · have hf1 : ((m : Int) == (L : Int)) = true := by simp; omega
                  rcases hmx with hmx | ⟨hmx, hmx'⟩
                  all_goals
                    go_wp2_with (first
                      | (go_at_call 43; refine (HF.out _).mono ?_; rintro e w1 ⟨rfl, hb1⟩
                         have ho1 : Hid (Own1 w1 w.heap.size 5 1 IsByte u7 out) := ho.out.below hb1 zL
                         have hbb1 : Below w.heap.size w w1 := hb.trans (hb1.mono hb.size)
                         clear hb1 ho hb)
                      | (go_at_call 44; refine (HC.out _).mono ?_; rintro e w2 ⟨rfl, qq⟩
                         have ho2 : Hid (Own1 w2 w.heap.size 5 1 IsByte u7 out) := by
                           obtain ⟨q, rfl⟩ := qq
                           exact ho1.out.drewN q
                         have hb2 : Below w.heap.size w w2 := by
                           obtain ⟨q, rfl⟩ := qq
                           exact below_drewN hbb1 q
                         have hz2 := hb2.size
                         clear qq ho1 hbb1)
                      | (at_builtin
                         go_must (refine wpList_append_bytes rfl (.tmp 79) (.tmp 82) _ rfl w.heap.size (w2.heap.size + 1) 5 j Tryd.underlying50 I.out.1 I.out.2.1 I.out.2.2.1 I.out.2.2.2 (l := out) (m := [cN]) u7 rfl (by exact ho2.out.alloc _) (some ⟨w2.heap.size, 0, none⟩) 1 1 rfl (by exact bytes_row (xs := [.int .u8 (cN : Int)]) rfl rfl (fun m hm => by simp at hm; omega) (by simp [maxLen]) 1 1 rfl rfl) (by have := Hol.out; omega) (by rw [World.size_alloc]; omega) ?_)
                         intro xa xn xc w4 hown hb4
                         have hbb : Below w.heap.size w w4 := (hb2.alloc (by omega) _).trans hb4))
                    go_roundw
                    case rel => exact ⟨cN + 1, max fr m, by omega, by go_num, by first | (congr 1; omega) | (simp; omega), by omega, hbb, Or.inr ⟨rfl, cN, hlt2, by rw [HL.out, ← hfull]; go_num, Hcf.out (by rw [HM.out, HL.out, hfull]), hown⟩⟩
                    case measure => simp [intOf]; omega
                · have hf1 : ((m : Int) == (L : Int)) = false := by simp; omega
                  rcases hmx with hmx | ⟨hmx, hmx'⟩
                  all_goals
                    go_wp2_with (first
                      | (go_at_call 43; refine (HF.out _).mono ?_; rintro e w1 ⟨rfl, hb1⟩
                         have ho1 : Hid (Own1 w1 w.heap.size 5 1 IsByte u7 out) := ho.out.below hb1 zL
                         have hbb1 : Below w.heap.size w w1 := hb.trans (hb1.mono hb.size)
                         clear hb1 ho hb)
                      | (go_at_call 44; refine (HC.out _).mono ?_; rintro e w2 ⟨rfl, qq⟩
                         have ho2 : Hid (Own1 w2 w.heap.size 5 1 IsByte u7 out) := by
                           obtain ⟨q, rfl⟩ := qq
                           exact ho1.out.drewN q
                         have hb2 : Below w.heap.size w w2 := by
                           obtain ⟨q, rfl⟩ := qq
                           exact below_drewN hbb1 q
                         clear qq ho1 hbb1))
                    go_roundw
                    case rel => exact ⟨cN + 1, max fr m, by omega, by go_num, by first | (congr 1; omega) | (simp; omega), by omega, hb2, Or.inl ⟨rfl, rfl, far_step hinv.out HM.out (by rw [HL.out]; exact hfull), ho2.out⟩⟩
                    case measure => simp [intOf]; omega
              · have hcN' : cN = 256 := by omega
                subst hcN'
                have hone := none_fits (r := (bs s).drop k) (fr := fr) (fun m hm => bs_bytes s m (List.mem_of_mem_drop hm)) H34.out.2 (by rw [Hrr.out]; exact hinv.out.1) (by rw [Hrr.out]; exact hinv.out.2.1) (by rw [Hrr.out]; exact hinv.out.2.2)
                have hv := unq_stop hu.out (by omega) H34.out.1 hone
                have HV := zH hv
                clear hv hone
                go_wp2_with fail
                subst hQ
                go_wp2_with fail
                (try simp only [Exit.inBlock, Exit.then])
                go_ret3
                exact ⟨by rw [HG.out, HV.out]; simp [unqV, txt] <;> omega, hb⟩
            · obtain ⟨L, hLL⟩ : ∃ L, (formN cc).length = L := ⟨_, rfl⟩
              have hL := form_len cc
              have hstep : unq (bs s) (f - 1) (k + L) (out ++ [cc]) = R := by
                obtain ⟨t, ht⟩ := hpre.out
                have hd : (bs s).drop k = formN cc ++ (t ++ ((bs s).drop k).drop 4) := by
                  rw [← List.append_assoc, ← ht, ← Hrr.out, List.take_append_drop]
                have h1 := one_of_form cc256 (t ++ ((bs s).drop k).drop 4)
                rw [← hd, hLL] at h1
                exact unq_step hu.out (by omega) H34.out.1 h1
              have hkn : k + L ≤ n := by
                obtain ⟨t, ht⟩ := hpre.out
                have := congrArg List.length ht
                rw [← Hrr.out, List.length_take, List.length_drop, Hln.out, List.length_append, hLL] at this
                omega
              rw [hLL] at hL
              have HS := zH hstep
              have hLL' : (k + (formN cc).length : Nat) = k + L := by rw [hLL]
              have HLL := zH hLL'
              have hout : (out ++ [cc]).length ≤ k + L := by have := Hol.out; simp; omega
              have Hout := zH hout
              clear hstep hout hLL'
              have hc2 : cN < 256 ∨ ¬ cN < 256 := by omega
              rcases hc2 with hc2 | hc2
              all_goals
                go_wp2_with fail
                subst hQ
                go_wp2_with fail
                go_roundw
                case rel => exact ⟨k + L, f - 1, out ++ [cc], hkn, by omega, by go_num, HS.out, hb, ho.out, Hout.out⟩
                case measure => simp [intOf]; omega
        · have gd1 : decide (k < n) = false := by simp; omega
          have gd2 : decide ((k : Int) < (n : Int)) = false := by simp; omega
          have m1 : (n : Int) ≤ (k : Int) + 4 := by omega
          have Gkn := zH g
          clear g
          go_wp2_with fail
          go_hide hQ
          go_loopw [7, 8, 9, 10, 12] (fun o i far tk cv wr => ∃ cN fr : Nat, cN ≤ 256 ∧ cv = .int .i64 cN ∧ far = .int .i64 fr ∧ fr ≤ 4 ∧ Below w.heap.size w wr ∧ ((tk = .bool false ∧ i = .int .i64 k ∧ Hid ((∀ c', c' < cN → common (formN c') r ≤ fr) ∧ (fr = 0 ∨ ∃ c', c' < cN ∧ common (formN c') r = fr) ∧ (∀ c', c' < cN → common (formN c') r ≠ (formN c').length)) ∧ Hid (Own1 wr w.heap.size 5 1 IsByte o out)) ∨ (tk = .bool true ∧ ∃ c0 : Nat, c0 < 256 ∧ i = .int .i64 ((k + (formN c0).length : Nat) : Int) ∧ Hid (∃ t, r = formN c0 ++ t) ∧ Hid (Own1 wr w.heap.size 5 1 IsByte o (out ++ [c0]))))) (fun _ _ _ _ cv _ => 256 - (intOf cv).toNat)
          case atStart => exact ⟨0, 0, by omega, rfl, rfl, by omega, hb, Or.inl ⟨rfl, rfl, ⟨fun _ h => absurd h (by omega), Or.inl rfl, fun _ h => absurd h (by omega)⟩, Ho.out⟩⟩
          case round =>
            clear Ho hb
            obtain ⟨cN, fr, hcN, rfl, rfl, hfr, hb, hst⟩ := hrel
            have hbz := hb.size
            rcases hst with ⟨rfl, rfl, hinv, ho⟩ | ⟨rfl, cc, cc256, rfl, hpre, ho⟩
            · by_cases hlt2 : cN < 256
              · have HF := zH (fun W => form_any cN hlt2 W)
                have hL := form_len cN
                have hfb := bs_txt (formN_bytes cN hlt2)
                have hfs : (txt (formN cN)).size = (formN cN).length := txt_size _
                have hcl := common_le_left (formN cN) r
                have hcf := common_full (formN cN) r
                have Hcf := zH hcf
                obtain ⟨τ, hτ⟩ : ∃ τ, txt (formN cN) = τ := ⟨_, rfl⟩
                rw [hτ] at HF hfb hfs
                obtain ⟨L, hLL⟩ : ∃ L, (formN cN).length = L := ⟨_, rfl⟩
                rw [hLL] at hL hfs hcl
                have hτs : τ.size ≤ maxLen := by unfold maxLen; omega
                have HC : Hid (∀ W, Calls Tryd.prog 44 #[.string τ, .string ρ] W fun e w' => e = .returned (.int .i64 (common (formN cN) r : Int)) ∧ Quiet W w') := zH (fun W => by have := common_any τ ρ hτs Hρs.out W; rw [hfb, Hρ.out] at this; exact this)
                obtain ⟨m, hm⟩ : ∃ m, common (formN cN) r = m := ⟨_, rfl⟩
                rw [hm] at HC hcl
                have HL := zH hLL
                have HM := zH hm
                clear hcf hfb hτ hτs hLL hm
                have hwrap : (cN : Int) % 256 = (cN : Int) := by omega
                have hmx : fr ≤ m ∨ (m < fr ∧ ¬ fr ≤ m) := by omega
                by_cases hfull : m = L
                · have hf1 : ((m : Int) == (L : Int)) = true := by simp; omega
                  rcases hmx with hmx | ⟨hmx, hmx'⟩
                  all_goals
                    go_wp2_with (first
                      | (go_at_call 43; refine (HF.out _).mono ?_; rintro e w1 ⟨rfl, hb1⟩
                         have ho1 : Hid (Own1 w1 w.heap.size 5 1 IsByte u7 out) := ho.out.below hb1 zL
                         have hbb1 : Below w.heap.size w w1 := hb.trans (hb1.mono hb.size)
                         clear hb1 ho hb)
                      | (go_at_call 44; refine (HC.out _).mono ?_; rintro e w2 ⟨rfl, qq⟩
                         have ho2 : Hid (Own1 w2 w.heap.size 5 1 IsByte u7 out) := by
                           obtain ⟨q, rfl⟩ := qq
                           exact ho1.out.drewN q
                         have hb2 : Below w.heap.size w w2 := by
                           obtain ⟨q, rfl⟩ := qq
                           exact below_drewN hbb1 q
                         have hz2 := hb2.size
                         clear qq ho1 hbb1)
                      | (at_builtin
                         go_must (refine wpList_append_bytes rfl (.tmp 79) (.tmp 82) _ rfl w.heap.size (w2.heap.size + 1) 5 j Tryd.underlying50 I.out.1 I.out.2.1 I.out.2.2.1 I.out.2.2.2 (l := out) (m := [cN]) u7 rfl (by exact ho2.out.alloc _) (some ⟨w2.heap.size, 0, none⟩) 1 1 rfl (by exact bytes_row (xs := [.int .u8 (cN : Int)]) rfl rfl (fun m hm => by simp at hm; omega) (by simp [maxLen]) 1 1 rfl rfl) (by have := Hol.out; omega) (by rw [World.size_alloc]; omega) ?_)
                         intro xa xn xc w4 hown hb4
                         have hbb : Below w.heap.size w w4 := (hb2.alloc (by omega) _).trans hb4))
                    go_roundw
                    case rel => exact ⟨cN + 1, max fr m, by omega, by go_num, by first | (congr 1; omega) | (simp; omega), by omega, hbb, Or.inr ⟨rfl, cN, hlt2, by rw [HL.out, ← hfull]; go_num, Hcf.out (by rw [HM.out, HL.out, hfull]), hown⟩⟩
                    case measure => simp [intOf]; omega
                · have hf1 : ((m : Int) == (L : Int)) = false := by simp; omega
                  rcases hmx with hmx | ⟨hmx, hmx'⟩
                  all_goals
                    go_wp2_with (first
                      | (go_at_call 43; refine (HF.out _).mono ?_; rintro e w1 ⟨rfl, hb1⟩
                         have ho1 : Hid (Own1 w1 w.heap.size 5 1 IsByte u7 out) := ho.out.below hb1 zL
                         have hbb1 : Below w.heap.size w w1 := hb.trans (hb1.mono hb.size)
                         clear hb1 ho hb)
                      | (go_at_call 44; refine (HC.out _).mono ?_; rintro e w2 ⟨rfl, qq⟩
                         have ho2 : Hid (Own1 w2 w.heap.size 5 1 IsByte u7 out) := by
                           obtain ⟨q, rfl⟩ := qq
                           exact ho1.out.drewN q
                         have hb2 : Below w.heap.size w w2 := by
                           obtain ⟨q, rfl⟩ := qq
                           exact below_drewN hbb1 q
                         clear qq ho1 hbb1))
                    go_roundw
                    case rel => exact ⟨cN + 1, max fr m, by omega, by go_num, by first | (congr 1; omega) | (simp; omega), by omega, hb2, Or.inl ⟨rfl, rfl, far_step hinv.out HM.out (by rw [HL.out]; exact hfull), ho2.out⟩⟩
                    case measure => simp [intOf]; omega
              · have hcN' : cN = 256 := by omega
                subst hcN'
                have hone := none_fits (r := (bs s).drop k) (fr := fr) (fun m hm => bs_bytes s m (List.mem_of_mem_drop hm)) H34.out.2 (by rw [Hrr.out]; exact hinv.out.1) (by rw [Hrr.out]; exact hinv.out.2.1) (by rw [Hrr.out]; exact hinv.out.2.2)
                have hv := unq_stop hu.out (by omega) H34.out.1 hone
                have HV := zH hv
                clear hv hone
                go_wp2_with fail
                subst hQ
                go_wp2_with fail
                (try simp only [Exit.inBlock, Exit.then])
                go_ret3
                exact ⟨by rw [HG.out, HV.out]; simp [unqV, txt] <;> omega, hb⟩
            · obtain ⟨L, hLL⟩ : ∃ L, (formN cc).length = L := ⟨_, rfl⟩
              have hL := form_len cc
              have hstep : unq (bs s) (f - 1) (k + L) (out ++ [cc]) = R := by
                obtain ⟨t, ht⟩ := hpre.out
                have hd : (bs s).drop k = formN cc ++ (t ++ ((bs s).drop k).drop 4) := by
                  rw [← List.append_assoc, ← ht, ← Hrr.out, List.take_append_drop]
                have h1 := one_of_form cc256 (t ++ ((bs s).drop k).drop 4)
                rw [← hd, hLL] at h1
                exact unq_step hu.out (by omega) H34.out.1 h1
              have hkn : k + L ≤ n := by
                obtain ⟨t, ht⟩ := hpre.out
                have := congrArg List.length ht
                rw [← Hrr.out, List.length_take, List.length_drop, Hln.out, List.length_append, hLL] at this
                omega
              rw [hLL] at hL
              have HS := zH hstep
              have hLL' : (k + (formN cc).length : Nat) = k + L := by rw [hLL]
              have HLL := zH hLL'
              have hout : (out ++ [cc]).length ≤ k + L := by have := Hol.out; simp; omega
              have Hout := zH hout
              clear hstep hout hLL'
              have hc2 : cN < 256 ∨ ¬ cN < 256 := by omega
              rcases hc2 with hc2 | hc2
              all_goals
                go_wp2_with fail
                subst hQ
                go_wp2_with fail
                go_roundw
                case rel => exact ⟨k + L, f - 1, out ++ [cc], hkn, by omega, by go_num, HS.out, hb, ho.out, Hout.out⟩
                case measure => simp [intOf]; omega
  · have d4 : ((c0 : Int) != 34) = true := by simp; omega
    have hv : unquoteN (bs s) k0 = ([], (k0 : Int), 10) := by rw [hgate, if_pos (by rw [hc0]; simpa using h4)]
    have HV := zH hv
    clear hv hln hgate hc0
    go_enter Tryd.func32, Tryd.ntmps32
    go_wp2_with fail
    go_ret3
    exact ⟨by rw [HV.out]; rfl, zB⟩
end Go.Proofs.YtpkggobhhieeoaaDoor
