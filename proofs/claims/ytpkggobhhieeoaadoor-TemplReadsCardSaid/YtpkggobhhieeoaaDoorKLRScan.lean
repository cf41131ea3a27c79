/- - -/
import Derived.Test.YtpkggobhhieeoaaDoorKM9
import Derived.Test.YtpkggobhhieeoaaDoorKM8
import Derived.Test.YtpkggobhhieeoaaDoorKM12
set_option maxRecDepth 100000
set_option maxHeartbeats 32000000
set_option linter.unusedSimpArgs false
set_option linter.unusedVariables false
namespace Go.Proofs.YtpkggobhhieeoaaDoor
open Go.RowKit
def RowSt (w : World) (v : Value) (toks : List Tok) (wr : World) : Prop := Own1 wr w.heap.size 110 4 Tok.Is v toks ∧ Below w.heap.size w wr
theorem RowSt.keep {w : World} {v : Value} {toks : List Tok} {wr W : World} (h : RowSt w v toks wr) (hb : Below wr.heap.size wr W) : RowSt w v toks W := ⟨h.1.below hb zL, h.2.trans (hb.mono h.2.size)⟩
theorem RowSt.grown {w : World} {v v' : Value} {toks toks' : List Tok} {W w9 : World} (h : RowSt w v toks W) (hg : W.grownBy w9 v.ownBlock) (h' : Own1 w9 w.heap.size 110 4 Tok.Is v' toks') : RowSt w v' toks' w9 := ⟨h', h.2.trans (below_of_grown h.1 h.2.size hg)⟩
theorem TokSt.over {wr w2 W : World} {cs : Array Value} (hb : Below wr.heap.size wr w2) (h : TokSt w2 W cs) : Below wr.heap.size wr W := hb.trans (h.1.mono hb.size)
theorem rscan_any (s : ByteArray) (hs : s.size ≤ maxLen) (w : World) : Calls Tryd.prog 45 #[.string s] w (ScanIs w (scanN (bs s))) := by
  unfold maxLen at hs
  obtain ⟨j, hi, hz, hsz, hby⟩ := info_parts info_tok
  have I := zH (And.intro hi (And.intro hz (And.intro hsz hby)))
  clear hi hz hsz hby
  obtain ⟨n, hn⟩ : ∃ n, s.size = n := ⟨_, rfl⟩
  have hln : (bs s).length = n := by rw [bs_len, hn]
  rw [hn] at hs
  have hn' : (s.size : Int) = (n : Int) := by rw [hn]
  have Hn := zH (And.intro hn hln)
  by_cases hbig : 4096 < n
  · have hv : scanN (bs s) = ([], 0, 3) := by unfold scanN; rw [hln, if_pos hbig]
    have HV := zH hv
    clear hv hln hn
    go_enter Tryd.func45, Tryd.ntmps45
    go_wp2_with fail
    go_ret3
    exact ScanIs.no rfl zB HV.out
  obtain ⟨R, hR⟩ : ∃ R, scanT (bs s) (n + 1) 0 [] = R := ⟨_, rfl⟩
  have hv : scanN (bs s) = R := by unfold scanN; rw [hln, if_neg hbig, hR]
  have HR := zH (And.intro hv hR)
  have hsmall : n ≤ 4096 := by omega
  have hdbig : decide (4096 < (n : Int)) = false := by simp; omega
  clear hv hR hln hn
  go_enter Tryd.func45, Tryd.ntmps45
  go_wp2_with fail
  go_loopw [5, 6] (fun out i wr => ∃ (k f a : Nat) (oa : Option Addr) (on oc : Nat) (toks : List Tok), k ≤ n ∧ n < f + k ∧ a ≤ k ∧ out = .slice oa on oc ∧ i = .int .i64 (k : Int) ∧ Hid (scanT (bs s) f k toks = R) ∧ Hid (RowSt w (.slice oa on oc) toks wr ∧ toks.length = a)) (fun _ i _ => n + 1 - (intOf i).toNat)
  case atStart => exact ⟨0, n + 1, 0, none, 0, 0, [], by omega, by omega, by omega, rfl, rfl, HR.out.2, ⟨⟨[], World.ownsRow_nil _ _ _ _, FlatR.nil_⟩, zB⟩, rfl⟩
  case round =>
    obtain ⟨k0, f0, a, oa, on, oc, toks, hk0, hf0, ha, rfl, rfl, hu0, hB⟩ := hrel
    obtain ⟨wo, hwo⟩ : ∃ wo, wo = wr := ⟨wr, rfl⟩
    subst hwo
    have b0 : (0 : Int) ≤ (k0 : Int) := Int.natCast_nonneg _
    go_wp2_with fail
    go_hide hQ
    go_loop [6] (fun i => ∃ k f : Nat, k0 ≤ k ∧ k ≤ n ∧ n < f + k ∧ i = .int .i64 (k : Int) ∧ Hid (scanT (bs s) f k toks = R)) (fun i => n - (intOf i).toNat)
    case atStart => exact ⟨k0, f0, Nat.le_refl _, hk0, hf0, rfl, hu0.out⟩
    case round =>
      clear hu0 hk0 hf0
      obtain ⟨k, f, hkk, hk, hf, rfl, hu⟩ := hrel
      have b1 : (0 : Int) ≤ (k : Int) := Int.natCast_nonneg _
      by_cases hlt : k < n
      · obtain ⟨c, hc, c256⟩ := get_bs (s := s) (k := k) (by rw [Hn.out.1]; exact hlt)
        have i1 := fun W => index_txt W 9 Tryd.underlying9 hc .i64 _ rfl
        have hdrop := drop_bs hc
        have Hc := zH hc
        clear hc
        have d1 : decide ((k : Int) < (n : Int)) = true := by simp; omega
        have d2 : ((k : Int) == (n : Int)) = false := by simp; omega
        by_cases hb : c = 32
        · subst hb
          have hv := scan_blank hu.out (by omega) Hc.out (by omega)
          have HV := zH hv
          clear hv hu hdrop Hc
          go_wp2_with fail
          go_round
          case rel => exact ⟨k + 1, f - 1, by omega, by omega, by omega, by go_num, HV.out⟩
          case measure => simp [intOf]; omega
        by_cases hb : c = 10
        · subst hb
          have hv := scan_blank hu.out (by omega) Hc.out (by omega)
          have HV := zH hv
          clear hv hu hdrop Hc
          go_wp2_with fail
          go_round
          case rel => exact ⟨k + 1, f - 1, by omega, by omega, by omega, by go_num, HV.out⟩
          case measure => simp [intOf]; omega
        have c1 : ((c : Int) == 32) = false := by simp; omega
        have c2 : ((c : Int) == 10) = false := by simp; omega
        have hnb : ¬ (c = 32 ∨ c = 10) := by omega
        subst hQ
        by_cases h34 : c = 34
        · subst h34
          obtain ⟨Q, hQ⟩ : ∃ Q, quoteAt (bs s) k = Q := ⟨_, rfl⟩
          have UQ : Hid (∀ W, Calls Tryd.prog 32 #[.string s, .int .i64 (k : Int)] W fun e w' => e = .returned (.tuple #[.string (txt Q.1), .int .i64 (Q.2.1 : Int), .int .i64 (Q.2.2 : Int)]) ∧ Below W.heap.size W w') := zH (fun W => by
            have := ref_unquote s (k : Int) (wf_in (by omega) (by omega)) (by rw [Hn.out.1]; omega) W
            rw [unquote_at Hc.out, hQ] at this
            exact this)
          obtain ⟨q1, q2, q3⟩ := Q
          by_cases hq3 : q3 = 0
          · subst hq3
            have hby : Bytes (bs s) := bs_bytes s
            obtain ⟨g1, g2, g3⟩ := unq_some _ _ _ _ _ _ hby bytes_nil hQ
            have g4 := unq_len _ _ _ _ _ _ _ hQ rfl hby
            rw [Hn.out.2] at g3
            simp only [List.length_nil] at g4
            have hv := scan_quote hu.out (by omega) Hc.out hQ
            have HV := zH hv
            have HT : Hid (Tok.Is [.int .i64 2, .string (txt q1), .int .i64 0, .int .i64 (k : Int)] ⟨((2 : Nat) : Int), q1, 0, (k : Int)⟩) := zH ⟨rfl, Tok.mk_ok (k := 2) g1 (by omega) (by omega) (by omega) (by omega) (by omega)⟩
            clear hv hu hdrop Hc hQ hby g1 g4
            go_wp2_with (first
            | (go_at_call 32
               refine (UQ.out _).mono ?_
               rintro e w1 ⟨rfl, b1'⟩
               have B1 := zH b1'
               clear b1')
            | (at_builtin
               go_must (refine wpList_append_list rfl (.tmp 53) (.tmp 57) _ rfl w.heap.size _ 110 j _ 4 40 Tryd.underlying81 I.out.1 I.out.2.1 I.out.2.2.1 I.out.2.2.2 rfl (by omega) (R := Tok.Is) (l := toks) (m := [⟨((2 : Nat) : Int), q1, 0, (k : Int)⟩]) (.slice oa on oc) rfl (by exact (hB.out.1.keep (B1.out.alloc B1.out.size _)).1) (some ⟨w1.heap.size, 0, none⟩) 1 1 rfl (by exact (SlR.new1 (by simp [World.setCell]) rfl HT.out)) (a + 1) (by rw [hB.out.2]) Tok.Is.one (by rw [hB.out.2]; unfold maxLen; omega) (by rw [hB.out.2]; omega) (by exact (hB.out.1.keep (B1.out.alloc B1.out.size _)).2.size) ?_)
               intro xa xc w9 hown hgr
               have ST9 : Hid (RowSt w (.slice xa (a + 1) xc) (toks ++ [⟨((2 : Nat) : Int), q1, 0, (k : Int)⟩]) w9) := zH ((hB.out.1.keep (B1.out.alloc B1.out.size _)).grown hgr hown)
               clear hown hgr))
            go_roundw
            case rel => exact ⟨q2, f - 1, a + 1, xa, a + 1, xc, _, by omega, by omega, by omega, rfl, by rfl, HV.out, ST9.out, by simp [hB.out.2]⟩
            case measure => simp [intOf]; omega
          · have h10 : q3 = 10 := unq_err _ _ _ _ _ _ _ hQ hq3
            subst h10
            have hv := scan_quote_no hu.out (by omega) Hc.out hQ (by omega)
            have HV := zH hv
            clear hv hu hdrop Hc hQ hq3
            go_wp2_with (first
            | (go_at_call 32
               refine (UQ.out _).mono ?_
               rintro e w1 ⟨rfl, b1'⟩
               have B1 := zH b1'
               clear b1'))
            (try simp only [Exit.inBlock, Exit.then, Exit.noGoto_ret])
            go_ret3
            exact ScanIs.no (by first | rfl | (push_cast; rfl)) (hB.out.1.keep (B1.out)).2 (by rw [HR.out.1, HV.out])
        have c3 : ((c : Int) == 34) = false := by simp; omega
        obtain ⟨r, hr⟩ : ∃ r, (bs s).drop k = r := ⟨_, rfl⟩
        have hby : Bytes r := fun x hx => bs_bytes s x (List.mem_of_mem_drop (by rw [hr]; exact hx))
        have hrl : r.length = n - k := by rw [← hr, List.length_drop, Hn.out.2]
        have hat : ∀ m, r[m]? = (bs s)[k + m]? := fun m => by rw [← hr, List.getElem?_drop]
        have hcut : ∀ m, bs (s.extract k (k + m)) = r.take m := fun m => by rw [bs_extract, ← hr, List.drop_take, Nat.add_sub_cancel_left]
        have Hr := zH (And.intro hr (And.intro hby (And.intro hrl (And.intro hat hcut))))
        clear hr hby hrl hat hcut hdrop
        go_wp2_with fail
        clear i1
        go_hide hQ
        go_loopw [10] (fun j wx => ∃ m : Nat, k + m ≤ n ∧ j = .int .i64 (m : Int) ∧ Hid (∀ i, i < m → beginsN (r.take (i + 1)) = true) ∧ Hid (Below wo.heap.size wo wx)) (fun j _ => n - (intOf j).toNat)
        case atStart => exact ⟨0, by omega, rfl, fun i h => by omega, zB⟩
        case round =>
          obtain ⟨m, hm, rfl, hbg, hBx⟩ := hrel
          have b2 : (0 : Int) ≤ (m : Int) := Int.natCast_nonneg _
          have WL := zH (fun W => ref_whole (s.extract k (k + m)) (by rw [← bs_len, Hr.out.2.2.2.2, List.length_take, Hr.out.2.2.1]; omega) W)
          rw [Hr.out.2.2.2.2] at WL
          by_cases hlt2 : k + m < n
          · obtain ⟨c', hc', c'256⟩ := get_bs (s := s) (k := k + m) (by rw [Hn.out.1]; exact hlt2)
            have i2 := fun W => index_txt W 9 Tryd.underlying9 hc' .i64 ((k : Int) + (m : Int)) (by push_cast; rfl)
            have hrm : r[m]? = some c' := by rw [Hr.out.2.2.2.1]; exact hc'
            have d3 : decide ((k : Int) + (m : Int) < (n : Int)) = true := by simp; omega
            have BG := zH (fun W => ref_begins (s.extract k (k + m + 1)) (by rw [← bs_len, Nat.add_assoc, Hr.out.2.2.2.2, List.length_take, Hr.out.2.2.1]; omega) W)
            rw [Nat.add_assoc k m 1, Hr.out.2.2.2.2, ← Nat.add_assoc] at BG
            have MR := zH (fun W => ref_more c' c'256 W)
            have Hrm := zH hrm
            clear hc' hrm
            by_cases hbb : beginsN (r.take (m + 1)) = true
            · have hnew : ∀ i, i < m + 1 → beginsN (r.take (i + 1)) = true := fun i hi => by
                by_cases e : i = m
                · subst e; exact hbb
                · exact hbg.out i (by omega)
              have HN := zH hnew
              rw [hbb] at BG
              clear hnew hbb hbg WL MR
              go_wp2_with (first
            | (go_at_call 60
               refine (BG.out _).mono ?_
               rintro e w1 ⟨rfl, b1'⟩
               have B1 : Hid (Below wo.heap.size wo w1) := zH (hBx.out.trans (b1'.mono hBx.out.size))
               clear b1' hBx))
              go_roundw
              case rel => exact ⟨m + 1, by omega, by go_num, HN.out, B1.out⟩
              case measure => simp [intOf]; omega
            · have hbb : beginsN (r.take (m + 1)) = false := by simpa using hbb
              rw [hbb] at BG
              have hlen : lenFrom r r.length 0 = m := lenFrom_eq (by rw [Hr.out.2.2.1]; omega) hbg.out (Or.inr hbb)
              rcases hwh : wholeN (r.take m) with _ | ⟨kk, t, v⟩
              · have hsp : stepP r = (none, m) := by rw [← step_same]; exact stepR_none hlen hwh
                have hv := scan_step_no hu.out (by omega) Hc.out hnb h34 (by rw [Hr.out.1]; exact hsp)
                have HV := zH hv
                unfold wholeV at WL
                rw [hwh] at WL
                simp only at WL
                clear hv hu Hc hlen hwh hsp hbg hbb MR Hrm
                subst hQ
                go_wp2_with (first
            | (go_at_call 60
               refine (BG.out _).mono ?_
               rintro e w1 ⟨rfl, b1'⟩
               have B1 : Hid (Below wo.heap.size wo w1) := zH (hBx.out.trans (b1'.mono hBx.out.size))
               clear b1' hBx)
            | (go_at_call 61
               refine (WL.out _).mono ?_
               rintro e w2 ⟨rfl, b2'⟩
               have B2 : Hid (Below wo.heap.size wo w2) := zH (B1.out.trans (b2'.mono B1.out.size))
               clear b2' B1))
                (try simp only [Exit.inBlock, Exit.then, Exit.noGoto_ret])
                go_ret3
                exact ScanIs.no (by first | rfl | (push_cast; rfl)) (hB.out.1.keep (TokSt.over B2.out (TokSt.new w2 _))).2 (by rw [HR.out.1, HV.out])
              · unfold wholeV at WL
                rw [hwh] at WL
                simp only at WL
                by_cases hk5 : kk = 5
                · subst hk5
                  have hsp : stepP r = (some (5, t, v), m) := by
                    rw [← step_same]
                    unfold stepR
                    rw [hlen, hwh]
                    simp
                  obtain ⟨g1, g2, g3, g4, g5, g6⟩ := step_some Hr.out.2.1 hsp
                  have g7 := step_len hsp
                  rw [Hr.out.2.2.1] at g7
                  replace g3 : Bytes t := g3
                  replace g7 : t.length ≤ n - k := g7
                  have hv := scan_step hu.out (by omega) Hc.out hnb h34 (by rw [Hr.out.1]; exact hsp)
                  have HV := zH hv
                  have HT : Hid (Tok.Is [.int .i64 ((5 : Nat) : Int), .string (txt t), .int .i64 v, .int .i64 (k : Int)] ⟨((5 : Nat) : Int), t, v, (k : Int)⟩) := zH ⟨rfl, Tok.mk_ok g3 (by omega) g4 (by omega) g5 g6⟩
                  clear hv hu Hc hlen hwh hsp hbg g3 g5 g6 g7 hbb MR Hrm
                  subst hQ
                  go_wp2_with (first
            | (go_at_call 60
               refine (BG.out _).mono ?_
               rintro e w1 ⟨rfl, b1'⟩
               have B1 : Hid (Below wo.heap.size wo w1) := zH (hBx.out.trans (b1'.mono hBx.out.size))
               clear b1' hBx)
            | (go_at_call 61
               refine (WL.out _).mono ?_
               rintro e w2 ⟨rfl, b2'⟩
               have B2 : Hid (Below wo.heap.size wo w2) := zH (B1.out.trans (b2'.mono B1.out.size))
               clear b2' B1)
            | (at_builtin
               go_must (refine wpList_append_list rfl (.tmp 116) (.tmp 118) _ rfl w.heap.size _ 110 j _ 4 40 Tryd.underlying81 I.out.1 I.out.2.1 I.out.2.2.1 I.out.2.2.2 rfl (by omega) (R := Tok.Is) (l := toks) (m := [⟨((5 : Nat) : Int), t, v, (k : Int)⟩]) (.slice oa on oc) rfl (by exact (hB.out.1.keep (TokSt.over B2.out ((TokSt.new w2 _).alloc _))).1) (some ⟨w2.heap.size + 1, 0, none⟩) 1 1 rfl (by exact (SlR.new1 (by simp [World.setCell]) rfl HT.out)) (a + 1) (by rw [hB.out.2]) Tok.Is.one (by rw [hB.out.2]; unfold maxLen; omega) (by rw [hB.out.2]; omega) (by exact (hB.out.1.keep (TokSt.over B2.out ((TokSt.new w2 _).alloc _))).2.size) ?_)
               intro xa xc w9 hown hgr
               have ST9 : Hid (RowSt w (.slice xa (a + 1) xc) (toks ++ [⟨((5 : Nat) : Int), t, v, (k : Int)⟩]) w9) := zH ((hB.out.1.keep (TokSt.over B2.out ((TokSt.new w2 _).alloc _))).grown hgr hown)
               clear hown hgr))
                  go_roundw
                  case rel => exact ⟨k + m, f - 1, a + 1, xa, a + 1, xc, _, by omega, by omega, by omega, rfl, by go_num, HV.out, ST9.out, by simp [hB.out.2]⟩
                  case measure => simp [intOf]; omega
                have e5 : ((kk : Int) == 5) = false := by simp; omega
                have e5' : ((kk : Int) != 5) = true := by simp; omega
                cases hfc : furtherN c' with
                | true =>
                  have hsp : stepP r = (none, m) := by
                    rw [← step_same]
                    unfold stepR
                    rw [hlen, hwh]
                    simp only
                    rw [if_pos ⟨hk5, c', Hrm.out, hfc⟩]
                  rw [hfc] at MR
                  have hv := scan_step_no hu.out (by omega) Hc.out hnb h34 (by rw [Hr.out.1]; exact hsp)
                  have HV := zH hv
                  clear hv hu Hc hlen hwh hsp hbg hbb hfc hk5
                  subst hQ
                  go_wp2_with (first
            | (go_at_call 60
               refine (BG.out _).mono ?_
               rintro e w1 ⟨rfl, b1'⟩
               have B1 : Hid (Below wo.heap.size wo w1) := zH (hBx.out.trans (b1'.mono hBx.out.size))
               clear b1' hBx)
            | (go_at_call 61
               refine (WL.out _).mono ?_
               rintro e w2 ⟨rfl, b2'⟩
               have B2 : Hid (Below wo.heap.size wo w2) := zH (B1.out.trans (b2'.mono B1.out.size))
               clear b2' B1)
            | (go_at_call 62
               refine (MR.out _).mono ?_
               rintro e w3 ⟨rfl, b3'⟩
               have T3 := zH ((TokSt.new w2 _).call b3')
               have t0 := T3.out.2.cell (i := 0) rfl
               have t1 := T3.out.2.cell (i := 1) rfl
               have t2 := T3.out.2.cell (i := 2) rfl
               have t3 := T3.out.2.cell (i := 3) rfl
               have t4 := T3.out.2.frozen 3
               clear b3'))
                  (try simp only [Exit.inBlock, Exit.then, Exit.noGoto_ret])
                  go_ret3
                  exact ScanIs.no (by first | rfl | (push_cast; rfl)) (hB.out.1.keep (TokSt.over B2.out T3.out)).2 (by rw [HR.out.1, HV.out])
                | false =>
                  have hsp : stepP r = (some (kk, t, v), m) := by
                    rw [← step_same]
                    unfold stepR
                    rw [hlen, hwh]
                    simp only
                    rw [if_neg (fun ⟨_, d, hd, hfd⟩ => by rw [Hrm.out] at hd; injection hd with hd; subst hd; rw [hfc] at hfd; cases hfd)]
                  rw [hfc] at MR
                  obtain ⟨g1, g2, g3, g4, g5, g6⟩ := step_some Hr.out.2.1 hsp
                  have g7 := step_len hsp
                  rw [Hr.out.2.2.1] at g7
                  replace g3 : Bytes t := g3
                  replace g7 : t.length ≤ n - k := g7
                  have hv := scan_step hu.out (by omega) Hc.out hnb h34 (by rw [Hr.out.1]; exact hsp)
                  have HV := zH hv
                  have HT : Hid (Tok.Is [.int .i64 (kk : Int), .string (txt t), .int .i64 v, .int .i64 (k : Int)] ⟨(kk : Int), t, v, (k : Int)⟩) := zH ⟨rfl, Tok.mk_ok g3 (by omega) g4 (by omega) g5 g6⟩
                  clear hv hu Hc hlen hwh hsp hbg g3 g5 g6 g7 hbb hfc hk5
                  subst hQ
                  go_wp2_with (first
            | (go_at_call 60
               refine (BG.out _).mono ?_
               rintro e w1 ⟨rfl, b1'⟩
               have B1 : Hid (Below wo.heap.size wo w1) := zH (hBx.out.trans (b1'.mono hBx.out.size))
               clear b1' hBx)
            | (go_at_call 61
               refine (WL.out _).mono ?_
               rintro e w2 ⟨rfl, b2'⟩
               have B2 : Hid (Below wo.heap.size wo w2) := zH (B1.out.trans (b2'.mono B1.out.size))
               clear b2' B1)
            | (go_at_call 62
               refine (MR.out _).mono ?_
               rintro e w3 ⟨rfl, b3'⟩
               have T3 := zH ((TokSt.new w2 _).call b3')
               have t0 := T3.out.2.cell (i := 0) rfl
               have t1 := T3.out.2.cell (i := 1) rfl
               have t2 := T3.out.2.cell (i := 2) rfl
               have t3 := T3.out.2.cell (i := 3) rfl
               have t4 := T3.out.2.frozen 3
               clear b3')
            | (at_builtin
               go_must (refine wpList_append_list rfl (.tmp 116) (.tmp 118) _ rfl w.heap.size _ 110 j _ 4 40 Tryd.underlying81 I.out.1 I.out.2.1 I.out.2.2.1 I.out.2.2.2 rfl (by omega) (R := Tok.Is) (l := toks) (m := [⟨(kk : Int), t, v, (k : Int)⟩]) (.slice oa on oc) rfl (by exact (hB.out.1.keep (TokSt.over B2.out ((T3.out.set 3 _).alloc _))).1) (some ⟨w3.heap.size, 0, none⟩) 1 1 rfl (by exact (SlR.new1 (by simp [World.setCell]) rfl HT.out)) (a + 1) (by rw [hB.out.2]) Tok.Is.one (by rw [hB.out.2]; unfold maxLen; omega) (by rw [hB.out.2]; omega) (by exact (hB.out.1.keep (TokSt.over B2.out ((T3.out.set 3 _).alloc _))).2.size) ?_)
               intro xa xc w9 hown hgr
               have ST9 : Hid (RowSt w (.slice xa (a + 1) xc) (toks ++ [⟨(kk : Int), t, v, (k : Int)⟩]) w9) := zH ((hB.out.1.keep (TokSt.over B2.out ((T3.out.set 3 _).alloc _))).grown hgr hown)
               clear hown hgr))
                  go_roundw
                  case rel => exact ⟨k + m, f - 1, a + 1, xa, a + 1, xc, _, by omega, by omega, by omega, rfl, by go_num, HV.out, ST9.out, by simp [hB.out.2]⟩
                  case measure => simp [intOf]; omega
          · have d3 : decide ((k : Int) + (m : Int) < (n : Int)) = false := by simp; omega
            have hmn : m = n - k := by omega
            have Hmn := zH hmn
            clear hmn
            have hlen : lenFrom r r.length 0 = m := lenFrom_eq (by rw [Hr.out.2.2.1]; have := Hmn.out; omega) hbg.out (Or.inl (by rw [Hr.out.2.2.1]; have := Hmn.out; omega))
            rcases hwh : wholeN (r.take m) with _ | ⟨kk, t, v⟩
            · have hsp : stepP r = (none, m) := by rw [← step_same]; exact stepR_none hlen hwh
              have hv := scan_step_no hu.out (by omega) Hc.out hnb h34 (by rw [Hr.out.1]; exact hsp)
              have HV := zH hv
              unfold wholeV at WL
              rw [hwh] at WL
              simp only at WL
              clear hv hu Hc hlen hwh hsp hbg
              subst hQ
              go_wp2_with (first
            | (go_at_call 61
               refine (WL.out _).mono ?_
               rintro e w2 ⟨rfl, b2'⟩
               have B2 : Hid (Below wo.heap.size wo w2) := zH (hBx.out.trans (b2'.mono hBx.out.size))
               clear b2' hBx))
              (try simp only [Exit.inBlock, Exit.then, Exit.noGoto_ret])
              go_ret3
              exact ScanIs.no (by first | rfl | (push_cast; rfl)) (hB.out.1.keep (TokSt.over B2.out (TokSt.new w2 _))).2 (by rw [HR.out.1, HV.out])
            · unfold wholeV at WL
              rw [hwh] at WL
              simp only at WL
              by_cases hk5 : kk = 5
              · subst hk5
                have hsp : stepP r = (some (5, t, v), m) := by
                  rw [← step_same]
                  unfold stepR
                  rw [hlen, hwh]
                  simp
                obtain ⟨g1, g2, g3, g4, g5, g6⟩ := step_some Hr.out.2.1 hsp
                have g7 := step_len hsp
                rw [Hr.out.2.2.1] at g7
                replace g3 : Bytes t := g3
                replace g7 : t.length ≤ n - k := g7
                have hv := scan_step hu.out (by omega) Hc.out hnb h34 (by rw [Hr.out.1]; exact hsp)
                have HV := zH hv
                have HT : Hid (Tok.Is [.int .i64 ((5 : Nat) : Int), .string (txt t), .int .i64 v, .int .i64 (k : Int)] ⟨((5 : Nat) : Int), t, v, (k : Int)⟩) := zH ⟨rfl, Tok.mk_ok g3 (by omega) g4 (by omega) g5 g6⟩
                clear hv hu Hc hlen hwh hsp hbg g3 g5 g6 g7
                subst hQ
                go_wp2_with (first
            | (go_at_call 61
               refine (WL.out _).mono ?_
               rintro e w2 ⟨rfl, b2'⟩
               have B2 : Hid (Below wo.heap.size wo w2) := zH (hBx.out.trans (b2'.mono hBx.out.size))
               clear b2' hBx)
            | (at_builtin
               go_must (refine wpList_append_list rfl (.tmp 116) (.tmp 118) _ rfl w.heap.size _ 110 j _ 4 40 Tryd.underlying81 I.out.1 I.out.2.1 I.out.2.2.1 I.out.2.2.2 rfl (by omega) (R := Tok.Is) (l := toks) (m := [⟨((5 : Nat) : Int), t, v, (k : Int)⟩]) (.slice oa on oc) rfl (by exact (hB.out.1.keep (TokSt.over B2.out ((TokSt.new w2 _).alloc _))).1) (some ⟨w2.heap.size + 1, 0, none⟩) 1 1 rfl (by exact (SlR.new1 (by simp [World.setCell]) rfl HT.out)) (a + 1) (by rw [hB.out.2]) Tok.Is.one (by rw [hB.out.2]; unfold maxLen; omega) (by rw [hB.out.2]; omega) (by exact (hB.out.1.keep (TokSt.over B2.out ((TokSt.new w2 _).alloc _))).2.size) ?_)
               intro xa xc w9 hown hgr
               have ST9 : Hid (RowSt w (.slice xa (a + 1) xc) (toks ++ [⟨((5 : Nat) : Int), t, v, (k : Int)⟩]) w9) := zH ((hB.out.1.keep (TokSt.over B2.out ((TokSt.new w2 _).alloc _))).grown hgr hown)
               clear hown hgr))
                go_roundw
                case rel => exact ⟨k + m, f - 1, a + 1, xa, a + 1, xc, _, by omega, by omega, by omega, rfl, by go_num, HV.out, ST9.out, by simp [hB.out.2]⟩
                case measure => simp [intOf]; omega
              have e5 : ((kk : Int) == 5) = false := by simp; omega
              have e5' : ((kk : Int) != 5) = true := by simp; omega
              · have hsp : stepP r = (some (kk, t, v), m) := by
                  rw [← step_same]
                  unfold stepR
                  rw [hlen, hwh]
                  simp only
                  rw [if_neg (fun ⟨_, d, hd, hfd⟩ => by rw [List.getElem?_eq_none (by rw [Hr.out.2.2.1]; have := Hmn.out; omega)] at hd; cases hd)]
                obtain ⟨g1, g2, g3, g4, g5, g6⟩ := step_some Hr.out.2.1 hsp
                have g7 := step_len hsp
                rw [Hr.out.2.2.1] at g7
                replace g3 : Bytes t := g3
                replace g7 : t.length ≤ n - k := g7
                have hv := scan_step hu.out (by omega) Hc.out hnb h34 (by rw [Hr.out.1]; exact hsp)
                have HV := zH hv
                have HT : Hid (Tok.Is [.int .i64 (kk : Int), .string (txt t), .int .i64 v, .int .i64 (k : Int)] ⟨(kk : Int), t, v, (k : Int)⟩) := zH ⟨rfl, Tok.mk_ok g3 (by omega) g4 (by omega) g5 g6⟩
                clear hv hu Hc hlen hwh hsp hbg g3 g5 g6 g7 hk5
                subst hQ
                go_wp2_with (first
            | (go_at_call 61
               refine (WL.out _).mono ?_
               rintro e w2 ⟨rfl, b2'⟩
               have B2 : Hid (Below wo.heap.size wo w2) := zH (hBx.out.trans (b2'.mono hBx.out.size))
               clear b2' hBx)
            | (at_builtin
               go_must (refine wpList_append_list rfl (.tmp 116) (.tmp 118) _ rfl w.heap.size _ 110 j _ 4 40 Tryd.underlying81 I.out.1 I.out.2.1 I.out.2.2.1 I.out.2.2.2 rfl (by omega) (R := Tok.Is) (l := toks) (m := [⟨(kk : Int), t, v, (k : Int)⟩]) (.slice oa on oc) rfl (by exact (hB.out.1.keep (TokSt.over B2.out ((TokSt.new w2 _).alloc _))).1) (some ⟨w2.heap.size + 1, 0, none⟩) 1 1 rfl (by exact (SlR.new1 (by simp [World.setCell]) rfl HT.out)) (a + 1) (by rw [hB.out.2]) Tok.Is.one (by rw [hB.out.2]; unfold maxLen; omega) (by rw [hB.out.2]; omega) (by exact (hB.out.1.keep (TokSt.over B2.out ((TokSt.new w2 _).alloc _))).2.size) ?_)
               intro xa xc w9 hown hgr
               have ST9 : Hid (RowSt w (.slice xa (a + 1) xc) (toks ++ [⟨(kk : Int), t, v, (k : Int)⟩]) w9) := zH ((hB.out.1.keep (TokSt.over B2.out ((TokSt.new w2 _).alloc _))).grown hgr hown)
               clear hown hgr))
                go_roundw
                case rel => exact ⟨k + m, f - 1, a + 1, xa, a + 1, xc, _, by omega, by omega, by omega, rfl, by go_num, HV.out, ST9.out, by simp [hB.out.2]⟩
                case measure => simp [intOf]; omega
      · have hkn : k = n := by omega
        have hdec : decide (k < n) = false := by simp; omega
        have hdec2 : decide ((k : Int) < (n : Int)) = false := by simp; omega
        have e0 : ((k : Int) == (n : Int)) = true := by simp; omega
        have hv := scan_end hu.out (by rw [Hn.out.2]; omega)
        have HV := zH hv
        clear hv hu hkn
        subst hQ
        go_wp2_with fail
        (try simp only [Exit.inBlock, Exit.then, Exit.noGoto_ret])
        go_ret3
        exact ⟨oa, on, oc, by rw [HR.out.1, HV.out]; rfl, by rw [HR.out.1, HV.out]; exact hB.out.1.1, hB.out.1.2⟩
end Go.Proofs.YtpkggobhhieeoaaDoor
