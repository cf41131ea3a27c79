/- The parser's 'mark': what begins with one. -/
import Derived.Test.YtlenenfgedgmhaaDoorLev
namespace Go.Proofs.YtlenenfgedgmhaaDoor
set_option linter.unusedSimpArgs false
set_option linter.unusedVariables false
open Go.RowKit

section
variable {q : Nat} {a : Option Addr} {c sz : Nat} {l : List Tok} {i : Nat} {W : World}
/-- what begins with a mark, in the grammar's words -/
def markR (l : List Tok) (f i : Nat) (s : List Nat) : PR :=
  if s = minusT then (match l[i + 1]? with
    | some x => if x.kind = 1 then .ok (.node 1 [] (-x.num) []) (i + 2) else .no (i + 1)
    | none => .no (i + 1))
  else if s = openT then (pL l f 1 (i + 1)).bind fun k j => want l j closeT (.ok k (j + 1))
  else .no i
theorem isT_at {t : Tok} (ht : l[i]? = some t) (s : List Nat) : isT l i s = (decide (4 ≤ t.kind) && decide (t.text = s)) := by unfold isT; rw [ht]
set_option maxRecDepth 100000 in
set_option maxHeartbeats 8000000 in
theorem p_mark {t : Tok} (ht : l[i]? = some t) (hk : t.kind = 5) (f : Nat) (HO : LevelC q a c sz l 23 (fun i => pL l f 1 i)) (h : PSt q a c sz l i W) (hr : markR l f i t.text ≠ .out) :
    Calls Tryd.prog 124 #[.pointer (some ⟨q, 0, none⟩)] W (Reads q a c sz l W (markR l f i t.text)) := by
  have H := Lib.hid h
  have QL := Lib.hid h.box.lt
  have hlt := (List.getElem?_eq_some_iff.1 ht).1
  have hfew := h.few
  have hb : isT l i minusT = decide (t.text = minusT) := by rw [isT_at ht, hk]; rfl
  have hb2 : isT l i openT = decide (t.text = openT) := by rw [isT_at ht, hk]; rfl
  have hnx : (txt minusT) = ⟨#[45]⟩ := by decide
  have hno : (txt openT) = ⟨#[40]⟩ := by decide
  have hnc : (txt closeT) = ⟨#[41]⟩ := by decide
  obtain ⟨tt, htt⟩ : ∃ k, t.text = k := ⟨_, rfl⟩
  rw [htt] at hr hb hb2 ⊢
  unfold markR at hr ⊢
  by_cases hm : tt = minusT
  · rw [if_pos hm] at hr ⊢
    rw [decide_eq_true hm] at hb
    have HX := Lib.hid (p_next minusT (show ∀ n ∈ minusT, n < 256 by decide) true hb h)
    rw [hnx] at HX
    have ST := Lib.hid (fun n => h.step (j := i + 1) (u := .int .i64 ((i : Int) + 1)) (by go_num) hlt n)
    obtain ⟨f0, f1, f2, f3, f4⟩ := h.facts
    have i5 : (i : Int) ≤ 5000 := by omega
    have i0 : (0 : Int) ≤ (i : Int) := Int.natCast_nonneg _
    have i00 : (0 : Int) ≤ (i : Int) + 1 := by omega
    obtain ⟨n, hn⟩ : ∃ n, l.length = n := ⟨_, rfl⟩
    have Hn := Lib.hid hn
    rw [hn] at f0 hlt hfew
    have n63 : n ≤ 9223372036854775807 := by omega
    by_cases hx : i + 1 < n
    · obtain ⟨x, hx1⟩ := get_some hn hx
      rw [hx1] at hr ⊢
      simp only at hr ⊢
      have HT := Lib.hid hx1
      have hg := h.good x (List.mem_iff_getElem?.2 ⟨_, hx1⟩)
      by_cases hk1 : x.kind = 1
      · rw [if_pos hk1] at hr ⊢
        have hnum : 0 ≤ x.num := by unfold TokG at hg; omega
        obtain ⟨xv, hxv⟩ : ∃ k, x.num = k := ⟨_, rfl⟩
        have HV := Lib.hid hxv
        rw [hxv] at hnum ⊢
        have dlt : ((i : Int) + 1 == (n : Int)) = false := by simp; omega
        have dlt2 : (i : Int) + 1 < (n : Int) := by omega
        have HK := Lib.hid hk1
        clear h ht hk hfew hb hb2 hnx hno hnc htt hm hn hx1 hg hr hk1 hxv
        go_enter Tryd.func124, Tryd.ntmps124
        go_wp2_with (first
          | (go_at_call 95; (with_reducible refine HX.out.mono ?_); rintro e w1 ⟨rfl, nq, rfl⟩))
        have hS1 := ST.out nq
        generalize hwq : World.setCell _ _ _ = W1
        rw [hwq] at hS1
        clear hwq f0 f1 f2 f3 f4
        have M1 := Lib.hid hS1.1
        have P1 := Lib.hid hS1.2
        obtain ⟨g0, g1, g2, g3, g4⟩ := hS1.2.facts
        rw [Hn.out] at g0
        have g1' : W1.cell? ⟨q, 1, none⟩ = some (.int .i64 ((i : Int) + 1)) := g1
        clear g1 hS1
        obtain ⟨b1, o1, e1, t0, t1, t2, _, hok⟩ := P1.out.tok HT.out
        subst e1
        rw [HK.out] at t0
        rw [HV.out] at t2
        have hxr := hok.2.2.2.1
        rw [HV.out] at hxr
        clear hok t1
        go_quiet (fail)
        go_wp2_with fail
        generalize hwq2 : World.setCell _ _ _ = W2
        have hS2 : Mv q W1 W2 ∧ PSt q (some ⟨b1, o1, none⟩) c sz l (i + 2) W2 := by rw [← hwq2]; exact P1.out.step (j := i + 2) (by go_num) (by rw [Hn.out]; omega) _
        clear hwq2 g0 g2 g3 g4 g1' t0 t2
        have M2 := Lib.hid hS2.1
        have P2 := Lib.hid hS2.2
        obtain ⟨v0, v1, v2, v3, v4⟩ := hS2.2.facts
        rw [Hn.out] at v0
        have v1' : W2.cell? ⟨q, 1, none⟩ = some (.int .i64 ((i : Int) + 2)) := v1
        obtain ⟨b2, o2, e2, _, _, t2, _, _⟩ := hS2.2.tok HT.out
        injection e2 with e2
        injection e2 with e2 e3
        subst e2 e3
        rw [HV.out] at t2
        have ws : IntKind.i64.wrap ((i : Int) + 2 - 1) = (i : Int) + 1 := by rw [IntKind.wrap_i64]; omega
        have hx63 : xv ≤ 9223372036854775807 := by
          have h2 := hxr
          unfold Lit.wf at h2
          rw [Bool.and_eq_true] at h2
          have h3 := of_decide_eq_true h2.2
          have h4 : IntKind.max .i64 = 9223372036854775807 := by decide
          omega
        have wn : IntKind.i64.wrap (-xv) = -xv := by rw [IntKind.wrap_i64]; omega
        clear v1 v2 v3 v4 hS2 hxr
        go_still_tail 15, (by kernel_rfl)
        change wpList _ _ _ _ _ W2.drew
        go_wp2_with fail
        go_ret
        have hbN := ((Below.refl W2.heap.size W2).alloc (Nat.le_refl _) (.cells #[.int .i64 1, .string ⟨#[]⟩, .int .i64 (-xv), .slice none 0 0, .slice none 0 0] 91)).drew
        exact Reads.mk_ (node0 (k := 1) (s := []) (Nat.le_trans M1.out.low.size M2.out.low.size) (Blk.new W2 91 #[.int .i64 1, .string ⟨#[]⟩, .int .i64 (-xv), .slice none 0 0, .slice none 0 0])) ((M1.out.trans M2.out).trans (Mv.of_below hbN (Nat.le_of_lt P2.out.box.lt))) (P2.out.keep hbN)
      · rw [if_neg hk1] at hr ⊢
        have dlt : ((i : Int) + 1 == (n : Int)) = false := by simp; omega
        have dlt2 : (i : Int) + 1 < (n : Int) := by omega
        obtain ⟨kd, hkd⟩ : ∃ k, x.kind = k := ⟨_, rfl⟩
        have HK := Lib.hid hkd
        rw [hkd] at hk1
        have d1 : (kd != 1) = true := by simpa using hk1
        clear h ht hk hfew hb hb2 hnx hno hnc htt hm hn hx1 hg hr hk1 hkd
        go_enter Tryd.func124, Tryd.ntmps124
        go_wp2_with (first
          | (go_at_call 95; (with_reducible refine HX.out.mono ?_); rintro e w1 ⟨rfl, nq, rfl⟩))
        have hS1 := ST.out nq
        generalize hwq : World.setCell _ _ _ = W1
        rw [hwq] at hS1
        clear hwq f0 f1 f2 f3 f4
        have M1 := Lib.hid hS1.1
        have P1 := Lib.hid hS1.2
        obtain ⟨g0, g1, g2, g3, g4⟩ := hS1.2.facts
        rw [Hn.out] at g0
        have g1' : W1.cell? ⟨q, 1, none⟩ = some (.int .i64 ((i : Int) + 1)) := g1
        clear g1 hS1
        obtain ⟨b1, o1, e1, t0, t1, t2, _, hok⟩ := P1.out.tok HT.out
        subst e1
        rw [HK.out] at t0
        clear hok t1 t2
        go_quiet (fail)
        go_wp2_with (first
          | (go_at_call 24; (refine (p_give (P1.out.quiet ⟨_, rfl⟩)).mono ?_); rintro e w2 ⟨rfl, q2⟩; have Q2 := Lib.hid q2; clear q2))
        exact ⟨rfl, rfl, M1.out.trans ((Mv.quiet ⟨_, rfl⟩).trans (Mv.quiet Q2.out))⟩
    · have hnone : l[i + 1]? = none := List.getElem?_eq_none (by omega)
      rw [hnone] at hr ⊢
      simp only at hr ⊢
      obtain rfl : n = i + 1 := by omega
      have dlt : ((i : Int) + 1 == ((i + 1 : Nat) : Int)) = true := by simp
      clear h ht hk hfew hb hb2 hnx hno hnc htt hm hn hr hnone hx
      go_enter Tryd.func124, Tryd.ntmps124
      go_wp2_with (first
        | (go_at_call 95; (with_reducible refine HX.out.mono ?_); rintro e w1 ⟨rfl, nq, rfl⟩))
      have hS1 := ST.out nq
      generalize hwq : World.setCell _ _ _ = W1
      rw [hwq] at hS1
      clear hwq f0 f1 f2 f3 f4
      have M1 := Lib.hid hS1.1
      have P1 := Lib.hid hS1.2
      obtain ⟨g0, g1, g2, g3, g4⟩ := hS1.2.facts
      rw [Hn.out] at g0
      have g1' : W1.cell? ⟨q, 1, none⟩ = some (.int .i64 ((i : Int) + 1)) := g1
      clear g1 hS1
      go_quiet (fail)
      go_wp2_with (first
        | (go_at_call 24; (refine (p_give (P1.out.quiet ⟨_, rfl⟩)).mono ?_); rintro e w2 ⟨rfl, q2⟩; have Q2 := Lib.hid q2; clear q2))
      exact ⟨rfl, rfl, M1.out.trans ((Mv.quiet ⟨_, rfl⟩).trans (Mv.quiet Q2.out))⟩
  · rw [if_neg hm] at hr ⊢
    rw [decide_eq_false hm] at hb
    have HX := Lib.hid (p_next minusT (show ∀ n ∈ minusT, n < 256 by decide) false hb h)
    rw [hnx] at HX
    by_cases ho : tt = openT
    · rw [if_pos ho] at hr ⊢
      rw [decide_eq_true ho] at hb2
      have HA : Hid (∀ X, Quiet W X → Calls Tryd.prog 126 #[.pointer (some ⟨q, 0, none⟩), .string ⟨#[40]⟩] X fun e w' => e = .returned (.tuple #[]) ∧ Mv q X w' ∧ PSt q a c sz l (i + 1) w') := Lib.hid (fun X hX => by rw [← hno]; exact p_want_yes openT (show ∀ n ∈ openT, n < 256 by decide) hb2 (h.quiet hX))
      obtain ⟨r, hrr⟩ : ∃ r, pL l f 1 (i + 1) = r := ⟨_, rfl⟩
      have hne : r ≠ .out := fun e => hr (by rw [hrr, e]; rfl)
      have HC1 : Hid (∀ X, PSt q a c sz l (i + 1) X → Calls Tryd.prog 23 #[.pointer (some ⟨q, 0, none⟩)] X (Reads q a c sz l X r)) := Lib.hid (fun X hX => by rw [← hrr]; exact HO (i + 1) X hX (by show pL l f 1 (i + 1) ≠ .out; rw [hrr]; exact hne))
      rw [hrr]
      have tokA : True := trivial
      cases r with
      | out => exact absurd rfl hne
      | no j =>
        clear HO h ht hk hfew hb hb2 hnx hno hnc htt hm ho hr hlt hrr hne
        go_enter Tryd.func124, Tryd.ntmps124
        go_wp2_with (first
          | (go_at_call 95; (with_reducible refine HX.out.mono ?_); rintro e w1 ⟨rfl, nq, rfl⟩; have Q1 : Hid (Quiet W (W.drewN nq)) := Lib.hid ⟨nq, rfl⟩)
          | (go_at_call 126; have _t := tokA; refine (HA.out _ Q1.out).mono ?_; rintro e w2 ⟨rfl, h2, h3⟩; have M2 := Lib.hid h2; have P2 := Lib.hid h3; clear h2 h3 tokA _t)
          | (go_at_call 23; refine (HC1.out _ P2.out).mono ?_; rintro e w3 ⟨rfl, h2⟩; have M3 := Lib.hid h2; clear h2))
        exact ⟨rfl, rfl, (Mv.quiet Q1.out).trans (M2.out.trans M3.out)⟩
      | ok k j =>
        show Calls _ _ _ _ (Reads q a c sz l W (want l j closeT (.ok k (j + 1))))
        unfold want
        obtain ⟨b, hb3⟩ : ∃ b, isT l j closeT = b := ⟨_, rfl⟩
        cases b with
        | true =>
          rw [hb3, if_pos rfl]
          have HB : Hid (∀ X, PSt q a c sz l j X → Calls Tryd.prog 126 #[.pointer (some ⟨q, 0, none⟩), .string ⟨#[41]⟩] X fun e w' => e = .returned (.tuple #[]) ∧ Mv q X w' ∧ PSt q a c sz l (j + 1) w') := Lib.hid (fun X hX => by rw [← hnc]; exact p_want_yes closeT (show ∀ n ∈ closeT, n < 256 by decide) hb3 hX)
          clear HO h ht hk hfew hb hb2 hnx hno hnc htt hm ho hr hlt hrr hne hb3
          go_enter Tryd.func124, Tryd.ntmps124
          go_wp2_with (first
            | (go_at_call 95; (with_reducible refine HX.out.mono ?_); rintro e w1 ⟨rfl, nq, rfl⟩; have Q1 : Hid (Quiet W (W.drewN nq)) := Lib.hid ⟨nq, rfl⟩)
            | (go_at_call 126; have _t := tokA; refine (HA.out _ Q1.out).mono ?_; rintro e w2 ⟨rfl, h2, h3⟩; have M2 := Lib.hid h2; have P2 := Lib.hid h3; clear h2 h3 tokA _t)
            | (go_at_call 23; refine (HC1.out _ P2.out).mono ?_; rintro e w3 h2; obtain ⟨g, rfl, h3, h4, h5⟩ := h2.get; have T3 := Lib.hid h3; have M3 := Lib.hid h4; have P3 := Lib.hid h5; clear h2 h3 h4 h5)
            | (go_at_call 126; refine (HB.out _ P3.out).mono ?_; rintro e w4 ⟨rfl, h2, h3⟩; have M4 := Lib.hid h2; have P4 := Lib.hid h3; clear h2 h3))
          go_ret
          have q2 : q < w2.heap.size := P2.out.box.lt
          exact Reads.back ((Mv.quiet Q1.out).trans M2.out) (Reads.mk_ (T3.out.high (High.of_mv M4.out q2)) (M3.out.trans M4.out) P4.out)
        | false =>
          rw [hb3, if_neg (by simp)]
          have HB : Hid (∀ X, PSt q a c sz l j X → Calls Tryd.prog 126 #[.pointer (some ⟨q, 0, none⟩), .string ⟨#[41]⟩] X fun e w' => e = .panicked (thrownE (placeAt l sz j)) ∧ Quiet X w') := Lib.hid (fun X hX => by rw [← hnc]; exact p_want_no closeT (show ∀ n ∈ closeT, n < 256 by decide) hb3 hX)
          clear HO h ht hk hfew hb hb2 hnx hno hnc htt hm ho hr hlt hrr hne hb3
          go_enter Tryd.func124, Tryd.ntmps124
          go_wp2_with (first
            | (go_at_call 95; (with_reducible refine HX.out.mono ?_); rintro e w1 ⟨rfl, nq, rfl⟩; have Q1 : Hid (Quiet W (W.drewN nq)) := Lib.hid ⟨nq, rfl⟩)
            | (go_at_call 126; have _t := tokA; refine (HA.out _ Q1.out).mono ?_; rintro e w2 ⟨rfl, h2, h3⟩; have M2 := Lib.hid h2; have P2 := Lib.hid h3; clear h2 h3 tokA _t)
            | (go_at_call 23; refine (HC1.out _ P2.out).mono ?_; rintro e w3 h2; obtain ⟨g, rfl, h3, h4, h5⟩ := h2.get; have T3 := Lib.hid h3; have M3 := Lib.hid h4; have P3 := Lib.hid h5; clear h2 h3 h4 h5)
            | (go_at_call 126; refine (HB.out _ P3.out).mono ?_; rintro e w4 ⟨rfl, h2⟩; have M4 := Lib.hid h2; clear h2))
          exact ⟨rfl, rfl, (Mv.quiet Q1.out).trans (M2.out.trans (M3.out.trans (Mv.quiet M4.out)))⟩
    · rw [if_neg ho] at hr ⊢
      rw [decide_eq_false ho] at hb2
      have HA : Hid (∀ X, Quiet W X → Calls Tryd.prog 126 #[.pointer (some ⟨q, 0, none⟩), .string ⟨#[40]⟩] X fun e w' => e = .panicked (thrownE (placeAt l sz i)) ∧ Quiet X w') := Lib.hid (fun X hX => by rw [← hno]; exact p_want_no openT (show ∀ n ∈ openT, n < 256 by decide) hb2 (h.quiet hX))
      clear HO h ht hk hfew hb hb2 hnx hno hnc htt hm ho hr hlt
      go_enter Tryd.func124, Tryd.ntmps124
      go_wp2_with (first
        | (go_at_call 95; (with_reducible refine HX.out.mono ?_); rintro e w1 ⟨rfl, nq, rfl⟩; have Q1 : Hid (Quiet W (W.drewN nq)) := Lib.hid ⟨nq, rfl⟩)
        | (go_at_call 126; refine (HA.out _ Q1.out).mono ?_; rintro e w2 ⟨rfl, h2⟩; have M2 := Lib.hid h2; clear h2))
      exact ⟨rfl, rfl, (Mv.quiet Q1.out).trans (Mv.quiet M2.out)⟩
end
end Go.Proofs.YtlenenfgedgmhaaDoor
