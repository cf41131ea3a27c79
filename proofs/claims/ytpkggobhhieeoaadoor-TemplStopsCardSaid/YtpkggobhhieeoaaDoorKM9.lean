/- - - -/
import Derived.Test.YtpkggobhhieeoaaDoorKM8
import Derived.Test.YtpkggobhhieeoaaDoorKM5
set_option maxRecDepth 100000
set_option maxHeartbeats 32000000
set_option linter.unusedSimpArgs false
set_option linter.unusedVariables false
namespace Go.Proofs.YtpkggobhhieeoaaDoor
open Go.RowKit
theorem next_one {s t : ByteArray} {i c : Nat} (ht : bs t = [c]) : nextB s i t = decide ((bs s)[i]? = some c) := by
  unfold nextB
  have h1 : t.size = 1 := by rw [← bs_len, ht]; rfl
  rw [h1, ht]
  congr 1
  rw [eq_iff_iff, ← List.head?_drop]
  cases (bs s).drop i with
  | nil => simp
  | cons a l => simp
theorem next_two {s t : ByteArray} {i c : Nat} (ht : bs t = [c, c]) : nextB s i t = (decide ((bs s)[i]? = some c) && decide ((bs s)[i + 1]? = some c)) := by
  unfold nextB
  have h1 : t.size = 2 := by rw [← bs_len, ht]; rfl
  rw [h1, ht, ← Bool.decide_and]
  congr 1
  rw [eq_iff_iff, ← List.head?_drop, ← List.head?_drop, ← List.drop_drop]
  cases (bs s).drop i with
  | nil => simp
  | cons a l => cases l with
    | nil => simp
    | cons b l => simp
def TReads {α : Type} (q : Nat) (s : ByteArray) (v : Value) (W : World) (val : α → Value) : (α × Nat) ⊕ Nat → Ending → World → Prop
  | .inl (t, j), e, w' => e = .returned (val t) ∧ Mv q W w' ∧ RdS q s v j w'
  | .inr k, e, w' => e = .panicked (thrownT k 200) ∧ Mv q W w'
def txtV (t : List Nat) : Value := .string (txt t)
def Pc.val (p : Pc) : Value := .agg #[.int .i64 p.kind, .string (txt p.text), .string (txt p.mark)]
section
variable {q : Nat} {s : ByteArray} {v : Value} {i : Nat} {W : World}
theorem t_must_yes (t : ByteArray) {c : Nat} (ht : bs t = [c]) (hc : (bs s)[i]? = some c) (h : RdS q s v i W) : Calls Tryd.prog 17 #[.pointer (some ⟨q, 0, none⟩), .string t] W fun e w' => e = .returned (.tuple #[]) ∧ Mv q W w' ∧ RdS q s v (i + 1) w' := by
  obtain ⟨f0, f1, f2, f3, f4, f5⟩ := h.facts
  have hlt : i + 1 ≤ s.size := by rw [← bs_len]; exact (List.getElem?_eq_some_iff.1 hc).1
  have hfew := h.few
  have i63 : (i : Int) ≤ 5000 := by omega
  have i0 : (0 : Int) ≤ (i : Int) := Int.natCast_nonneg _
  have H := zH h
  have HN := zH (t_next t (by rw [← bs_len, ht]; exact Nat.le_of_ble_eq_true rfl) true (by rw [next_one ht, hc]; simp) h)
  clear h hc hfew ht
  go_enter Tryd.func17, Tryd.ntmps17
  go_wp2_with (go_at_call 15; (with_reducible refine HN.out.mono ?_); rintro e w1 ⟨rfl, nq, rfl⟩)
  go_end0
  exact ⟨rfl, H.out.step (j := i + 1) (by go_num) hlt nq⟩
theorem t_must_no (t : ByteArray) {c : Nat} (ht : bs t = [c]) (hc : (bs s)[i]? ≠ some c) (h : RdS q s v i W) : Calls Tryd.prog 17 #[.pointer (some ⟨q, 0, none⟩), .string t] W fun e w' => e = .panicked (thrownT i 200) ∧ Quiet W w' := by
  obtain ⟨f0, f1, f2, f3, f4, f5⟩ := h.facts
  have HN := zH (t_next t (by rw [← bs_len, ht]; exact Nat.le_of_ble_eq_true rfl) false (by rw [next_one ht]; simpa using hc) h)
  clear h hc ht
  go_enter Tryd.func17, Tryd.ntmps17
  go_wp2_with (go_at_call 15; (with_reducible refine HN.out.mono ?_); rintro e w1 ⟨rfl, nq, rfl⟩)
  exact ⟨rfl, rfl, nq, rfl⟩
theorem t_name {R : (List Nat × Nat) ⊕ Nat} (hR : nameS (bs s) i = R) (h : RdS q s v i W) : Calls Tryd.prog 28 #[.pointer (some ⟨q, 0, none⟩)] W (TReads q s v W txtV R) := by
  obtain ⟨n, hn⟩ : ∃ n, s.size = n := ⟨_, rfl⟩
  have hln : (bs s).length = n := by rw [bs_len, hn]
  have hn' : (s.size : Int) = (n : Int) := by rw [hn]
  obtain ⟨f0, f1, f2, f3, f4, f5⟩ := h.facts
  have hle := h.le
  have hfew := h.few
  rw [hn] at hle hfew
  obtain ⟨E, hE⟩ : ∃ E, nameE (bs s) i = E := ⟨_, rfl⟩
  have hE2 : nameTo (bs s) i n i = E := by rw [← hE, ← hln]; rfl
  have hR2 : R = if E = i then .inr i else .inl (cutN (bs s) i E, E) := by rw [← hR]; unfold nameS; rw [hE]
  have HR := zH hR2
  have HE := zH hE2
  have Hln := zH hln
  have Hn := zH hn
  have H := zH h
  have RT : Hid (∀ (k : Nat) (c : Bool) (W : World), k ≤ n → rightN (cutN (bs s) i k) = c → Calls Tryd.prog 38 #[.string (s.extract i k)] W fun e w' => e = .returned (.bool c) ∧ Quiet W w') := zH (fun k c W hk hc => by
    have := right_any (s.extract i k) (by rw [← bs_len, bs_extract, List.length_drop, List.length_take, Hln.out]; unfold maxLen; omega) W
    rw [bs_extract] at this
    rw [← hc]
    exact this)
  have i0 : (0 : Int) ≤ (i : Int) := Int.natCast_nonneg _
  clear hR hR2 hE hE2 hln hn h
  go_enter Tryd.func28, Tryd.ntmps28
  go_wp2_with fail
  clear f0 f1 f2 f3 f4 f5
  go_loopg [] n (fun gk wr => ∃ k, i ≤ k ∧ k ≤ n ∧ n ≤ gk + k ∧ Hid (nameTo (bs s) i gk k = E) ∧ Hid (Mv q W wr) ∧ Hid (RdS q s v k wr))
  case atStart => exact ⟨i, Nat.le_refl _, hle, by omega, HE, zH (Mv.refl _ _), H⟩
  case round =>
    obtain ⟨k, hbk, hkn, hfk, hu, hm, hp⟩ := hrel
    obtain ⟨f0, f1, f2, f3, f4, f5⟩ := hp.out.facts
    have k0 : (0 : Int) ≤ (k : Int) := Int.natCast_nonneg _
    have HEND : Hid (E = k → ∀ (wz : World), Quiet wr wz → wz.cell? ⟨q, 0, none⟩ = some (.string s) ∧ wz.cell? ⟨q, 1, none⟩ = some (.int .i64 (k : Int)) ∧ q < wz.heap.size) := zH (fun _ wz hq => by
      have h2 := (hp.out.quiet hq).facts
      exact ⟨h2.1, h2.2.1, h2.2.2.2.2.2⟩)
    by_cases hlt : k < n
    · have d1 : decide (k < n) = true := by simpa using hlt
      have k2 : (k : Int) + 1 ≤ (n : Int) := by omega
      obtain ⟨c, hc⟩ : ∃ c, rightN (cutN (bs s) i (k + 1)) = c := ⟨_, rfl⟩
      have R1 := zH (fun W => RT.out (k + 1) c W hlt hc)
      have HC := zH hc
      clear hc
      cases c
      · have hE := name_end hu.out (fun _ => HC.out)
        subst hE
        by_cases hEi : E = i
        · subst hEi
          have e4 : ((E : Int) == (E : Int)) = true := by simp
          have hv := HR.out
          rw [if_pos rfl] at hv
          subst hv
          clear HR HEND
          go_wp2_with fail
          go_quiet ((go_at_call 38; exact quiet_call (R1.out _) rfl))
          go_wp2_with fail
          exact ⟨rfl, rfl, hm.out.trans (Mv.quiet ⟨_, rfl⟩)⟩
        · have e4 : ((E : Int) == (i : Int)) = false := by simp; omega
          have hv := HR.out
          rw [if_neg hEi] at hv
          subst hv
          have i1 : (i : Int) ≤ (E : Int) := by omega
          have i2 : (E : Int) ≤ (n : Int) := by omega
          clear hEi HR HEND
          go_wp2_with fail
          go_quiet ((go_at_call 38; exact quiet_call (R1.out _) rfl))
          go_wp2_with fail
          go_quiet (fail)
          go_wp2_with fail
          go_ret
          exact ⟨by rw [txtV, ← cut_txt]; rfl, hm.out.trans (Mv.quiet (Quiet.drewN ⟨_, rfl⟩ _)), hp.out.quiet (Quiet.drewN ⟨_, rfl⟩ _)⟩
      · have hv := name_on hu.out (by omega) (by rw [Hln.out]; exact hlt) HC.out
        have HV := zH hv
        have HST := zH (fun nq => hp.out.step (j := k + 1) (u := .int .i64 ((k : Int) + 1)) (by go_num) (by rw [Hn.out]; exact hlt) nq)
        clear hv HEND
        go_wp2_with fail
        go_quiet ((go_at_call 38; exact quiet_call (R1.out _) rfl))
        go_wp2_with fail
        go_roundg (gk - 1)
        case measure => omega
        case rel => exact ⟨k + 1, by omega, by omega, by omega, HV.out, zH (hm.out.trans (HST.out _).1), zH (HST.out _).2⟩
    · have d1 : decide (k < n) = false := by simpa using hlt
      have hE := name_end hu.out (fun h => absurd h (by rw [Hln.out]; exact hlt))
      subst hE
      by_cases hEi : E = i
      · subst hEi
        have e4 : ((E : Int) == (E : Int)) = true := by simp
        have hv := HR.out
        rw [if_pos rfl] at hv
        subst hv
        clear HR HEND
        go_wp2_with fail
        go_quiet (fail)
        go_wp2_with fail
        exact ⟨rfl, rfl, hm.out.trans (Mv.quiet ⟨_, rfl⟩)⟩
      · have e4 : ((E : Int) == (i : Int)) = false := by simp; omega
        have hv := HR.out
        rw [if_neg hEi] at hv
        subst hv
        have i1 : (i : Int) ≤ (E : Int) := by omega
        have i2 : (E : Int) ≤ (n : Int) := by omega
        clear hEi HR HEND
        go_wp2_with fail
        go_quiet (fail)
        go_wp2_with fail
        go_quiet (fail)
        go_wp2_with fail
        go_ret
        exact ⟨by rw [txtV, ← cut_txt]; rfl, hm.out.trans (Mv.quiet (Quiet.drewN ⟨_, rfl⟩ _)), hp.out.quiet (Quiet.drewN ⟨_, rfl⟩ _)⟩
end
end Go.Proofs.YtpkggobhhieeoaaDoor
namespace Go.Proofs.YtpkggobhhieeoaaDoor
open Go.RowKit
theorem txt_empty_iff {t : List Nat} : (txt t).toList = [] ↔ t = [] := by
  constructor
  · intro h
    have h2 : (txt t).toList = (⟨#[]⟩ : ByteArray).toList := h.trans (by rw [ByteArray.toList_eq])
    have h3 := (toList_inj _ _).1 h2
    have := txt_size t
    rw [h3] at this
    exact List.eq_nil_of_length_eq_zero this.symm
  · intro h; subst h; rw [ByteArray.toList_eq]; rfl
section
variable {q : Nat} {s : ByteArray} {v : Value} {i : Nat} {W : World}
theorem unquote_place (s : List Nat) (i : Nat) (hi : i ≤ s.length) : ∃ (t : List Nat) (j e : Nat), unquoteN s (i : Int) = (t, (j : Int), e) ∧ markS s i = (if e ≠ 0 then .inr j else if t = [] then .inr (i + 1) else .inl (t, j)) := by
  by_cases h : s[i]? = some 34
  · refine ⟨(quoteAt s i).1, (quoteAt s i).2.1, (quoteAt s i).2.2, unquote_at h, ?_⟩
    unfold markS
    rw [if_neg (by simpa using h)]
  · refine ⟨[], i, 10, unquote_no hi h, ?_⟩
    unfold markS
    rw [if_pos h]
    rfl
theorem t_unq {t : List Nat} {j e : Nat} (hi : i ≤ s.size) (hf : s.size ≤ 4096) (hu : unquoteN (bs s) (i : Int) = (t, (j : Int), e)) (W : World) :
    Calls Tryd.prog 41 #[.string s, .int .i64 (i : Int)] W fun x w' => x = .returned (.tuple #[.string (txt t), .int .i64 (j : Int), .int .i64 (e : Int)]) ∧ Below W.heap.size W w' := by
  have := unquote_any s (i : Int) (wf47 (by omega) (by omega)) (by omega) W
  rw [hu] at this
  exact this
theorem RdS.setN (h : RdS q s v i W) {j : Nat} (hj : j ≤ s.size) : Mv q W (W.setCell ⟨q, 1, none⟩ (.int .i64 (j : Int))) ∧ RdS q s v j (W.setCell ⟨q, 1, none⟩ (.int .i64 (j : Int))) := ⟨Mv.set _ _ _ _, h.set rfl hj⟩
theorem Mv.belowB {W W' : World} (h : Below W.heap.size W W') (hq : q < W.heap.size) : Mv q W W' := Mv.of_below h (Nat.le_of_lt hq)
theorem t_mark {R : (List Nat × Nat) ⊕ Nat} (hR : markS (bs s) i = R) (h : RdS q s v i W) : Calls Tryd.prog 29 #[.pointer (some ⟨q, 0, none⟩)] W (TReads q s v W txtV R) := by
  obtain ⟨f0, f1, f2, f3, f4, f5⟩ := h.facts
  have hle := h.le
  have hfew := h.few
  obtain ⟨t, j, e, hu, hm⟩ := unquote_place (bs s) i (by rw [bs_len]; exact hle)
  rw [hR] at hm
  have UQ := zH (fun W => t_unq hle hfew hu W)
  have i0 : (0 : Int) ≤ (i : Int) := Int.natCast_nonneg _
  have i5 : (i : Int) ≤ 5000 := by omega
  have H := zH h
  have HJ : Hid (∀ t2 k, R = .inl (t2, k) → k ≤ s.size) := zH (fun t2 k hk => by
    have h2 := mark_some (bs_bytes s) (hR.trans hk)
    rw [bs_len] at h2
    exact h2.2.2.2.2.2.1)
  clear hR hu h hle hfew
  by_cases he : e = 0
  · subst he
    rw [if_neg (by simp)] at hm
    by_cases ht : t = []
    · rw [if_pos ht] at hm
      subst hm ht
      have e1 : ((txt []).toList == []) = true := by rw [txt_empty_iff.2 rfl]; rfl
      go_enter Tryd.func29, Tryd.ntmps29
      go_wp2_with fail
      go_region_held3 (fun w' => w'.cell? ⟨q, 0, none⟩ = some (.string s) ∧ w'.cell? ⟨q, 1, none⟩ = some (.int .i64 (i : Int)))
        (first | exact ⟨f0, f1⟩ | exact ⟨g0, K1⟩ | go_keep | fail)
        (first
          | (go_at_call 41; refine (UQ.out _).mono ?_; rintro e w1 ⟨rfl, h1⟩; have M1 : Hid (Mv q W w1) := zH ((Mv.quiet ⟨1, rfl⟩).trans (Mv.belowB h1 f5)); have P1 := zH ((H.out.quiet ⟨1, rfl⟩).keep h1); clear h1; obtain ⟨g0, K1, g2, g3, g4, g5⟩ := P1.out.facts))
      go_wp2_with fail
      exact ⟨rfl, rfl, M1.out⟩
    · rw [if_neg ht] at hm
      subst hm
      have e1 : ((txt t).toList == []) = false := by
        have := mt txt_empty_iff.1 ht
        simpa using this
      have HJ2 := zH (HJ.out t j rfl)
      go_enter Tryd.func29, Tryd.ntmps29
      go_wp2_with fail
      go_region_held3 (fun w' => w'.cell? ⟨q, 0, none⟩ = some (.string s) ∧ w'.cell? ⟨q, 1, none⟩ = some (.int .i64 (i : Int)))
        (first | exact ⟨f0, f1⟩ | exact ⟨g0, K1⟩ | go_keep | fail)
        (first
          | (go_at_call 41; refine (UQ.out _).mono ?_; rintro e w1 ⟨rfl, h1⟩; have M1 : Hid (Mv q W w1) := zH ((Mv.quiet ⟨1, rfl⟩).trans (Mv.belowB h1 f5)); have P1 := zH ((H.out.quiet ⟨1, rfl⟩).keep h1); clear h1; obtain ⟨g0, K1, g2, g3, g4, g5⟩ := P1.out.facts))
      go_wp2_with fail
      go_ret
      exact ⟨rfl, M1.out.trans (P1.out.setN HJ2.out).1, (P1.out.setN HJ2.out).2⟩
  · rw [if_pos he] at hm
    subst hm
    have e1 : ((e : Int) != 0) = true := by simp; omega
    go_enter Tryd.func29, Tryd.ntmps29
    go_wp2_with fail
    go_region_held3 (fun w' => w'.cell? ⟨q, 0, none⟩ = some (.string s) ∧ w'.cell? ⟨q, 1, none⟩ = some (.int .i64 (i : Int)))
      (first | exact ⟨f0, f1⟩ | exact ⟨g0, K1⟩ | go_keep | fail)
      (first
        | (go_at_call 41; refine (UQ.out _).mono ?_; rintro e w1 ⟨rfl, h1⟩; have M1 : Hid (Mv q W w1) := zH ((Mv.quiet ⟨1, rfl⟩).trans (Mv.belowB h1 f5)); have P1 := zH ((H.out.quiet ⟨1, rfl⟩).keep h1); clear h1; obtain ⟨g0, K1, g2, g3, g4, g5⟩ := P1.out.facts))
    go_wp2_with fail
    exact ⟨rfl, rfl, M1.out⟩
end
end Go.Proofs.YtpkggobhhieeoaaDoor
