/- - -/
import Derived.Test.YtpkggobhhieeoaaDoorKTrI
import Derived.Test.YtpkggobhhieeoaaDoorKTpZ
set_option maxRecDepth 100000
set_option maxHeartbeats 32000000
set_option linter.unusedSimpArgs false
set_option linter.unusedVariables false
namespace Go.Proofs.YtpkggobhhieeoaaDoor
open Go.RowKit
theorem rrow_any (s : ByteArray) (hs0 : s.size ≤ maxLen) (w : World) : Calls Tryd.prog 8 #[.string s] w (RowIs w (rowN (bs s))) := by
  obtain ⟨jp, hi, hz, hsz, hby⟩ := info_parts info_Piece
  have I := zH (And.intro hi (And.intro hz (And.intro hsz hby)))
  clear hi hz hsz hby
  obtain ⟨jb, hi, hz, hsz, hby⟩ := info_parts info_byte
  have J := zH (And.intro hi (And.intro hz (And.intro hsz hby)))
  clear hi hz hsz hby
  obtain ⟨n, hn⟩ : ∃ n, s.size = n := ⟨_, rfl⟩
  have hln : (bs s).length = n := by rw [bs_len, hn]
  have hn' : (s.size : Int) = (n : Int) := by rw [hn]
  have Hln := zH hln
  have Hn := zH hn
  obtain ⟨R, hR⟩ : ∃ R, rowN (bs s) = R := ⟨_, rfl⟩
  rw [hR]
  by_cases hbig : 4096 < n
  · have hv : R = ([], 0, 3) := by rw [← hR]; unfold rowN; rw [if_pos (by omega)]
    subst hv
    have d1 : decide ((4096 : Int) < (n : Int)) = true := by simp; omega
    have d2 : (4096 : Int) < (n : Int) := by omega
    clear hR hln hn hs0
    go_enter Tryd.func8, Tryd.ntmps8
    go_wp2_with fail
    go_ret3
    exact ⟨_, rfl, own1_nil _ _ _ _ _, zB⟩
  · have d1 : decide ((4096 : Int) < (n : Int)) = false := by simp; omega
    have d2 : ¬ (4096 : Int) < (n : Int) := by omega
    have hs : s.size ≤ 4096 := by omega
    have hrow : rowS (bs s) n 0 [] = R := by rw [← hR]; unfold rowN; rw [if_neg (by omega), hln]
    have HR := zH hrow
    have hfew : n ≤ 4096 := by omega
    clear hR hln hn hrow
    go_enter Tryd.func8, Tryd.ntmps8
    go_wp2_with fail
    go_loopg [2, 3, 4, 5, 6, 7, 8, 9, 10, 11] n (fun gk v2 v3 v4 v5 v6 _ _ _ _ _ wr => ∃ (i : Nat) (a : Option Addr) (m c : Nat) (ps : List Pc), v2 = .slice none 0 0 ∧ v3 = .int .i64 0 ∧ v4 = .int .i64 0 ∧ v5 = .slice a m c ∧ v6 = .int .i64 (i : Int) ∧ i ≤ n ∧ n ≤ gk + i ∧ m ≤ 64 ∧ Hid (rowS (bs s) gk i ps = R) ∧ Hid (Own1 wr w.heap.size 30 3 Pc.Is (.slice a m c) ps) ∧ Hid (ps.length = m) ∧ Hid (Below w.heap.size w wr))
    case atStart => exact ⟨0, none, 0, 0, [], rfl, rfl, rfl, rfl, by go_num, Nat.zero_le _, by omega, by omega, HR, zH (own1_nil _ _ _ _ _), zH rfl, zH zB⟩
    case round =>
      clear HR
      obtain ⟨i, a, m, c, ps, rfl, rfl, rfl, rfl, rfl, hin, hfi, hm64, hu, ho, HPL, hbl⟩ := hrel
      obtain ⟨wo, hwo⟩ : ∃ wo, wo = wr := ⟨wr, rfl⟩
      subst hwo
      have i0 : (0 : Int) ≤ (i : Int) := Int.natCast_nonneg _
      have hsz0 := hbl.out.size
      by_cases hlt : i < n
      · have d3 : decide (i < n) = true := by simpa using hlt
        have hlb : i < (bs s).length := by rw [Hln.out]; exact hlt
        have hks : i < s.size := by rw [Hn.out]; exact hlt
        obtain ⟨ch, hch, c256⟩ := get_bs hks
        have ix := fun W => index_txt W 9 Tryd.underlying9 hch .i64 _ rfl
        by_cases h64 : m = 64
        · have hv := row_full hu.out (by omega) hlb (by rw [HPL.out]; exact h64)
          have e1 : ((m : Int) == 64) = true := by simp; omega
          subst hv
          go_wp2_with fail
          go_ret3
          exact ⟨_, rfl, own1_nil _ _ _ _ _, hbl.out⟩
        · have e1 : ((m : Int) == 64) = false := by simp; omega
          have hm1 : m + 1 ≤ 64 := by omega
          have hps : ps.length ≠ 64 := by rw [HPL.out]; exact h64
          have i2 : (i : Int) + 1 ≤ (n : Int) := by omega
          by_cases hb : insB (bs s) i = true
          · have hb1 : (bs s)[i]? = some 123 ∧ (bs s)[i + 1]? ≠ some 123 := by simpa [insB] using hb
            obtain rfl : ch = 123 := by have := hb1.1; rw [hch] at this; injection this
            have N1 : Hid (Calls Tryd.prog 19 #[.string s, .int .i64 ((i : Int) + 1), .int .u8 123] wo fun e w' => e = .returned (.bool false) ∧ w' = wo) := zH (is_any s hs (i + 1) 123 _ _ (by go_num) rfl false (by simpa using hb1.2) wo)
            cases hins : insertS (bs s) (i + 1) with
            | inr k =>
              have hv := row_ins_bad hu.out (by omega) hlb hps hb hins
              subst hv
              have NI : Hid (Calls Tryd.prog 20 #[.string s, .int .i64 ((i : Int) + 1)] wo fun e w' => ∃ (a : Int) (b c : ByteArray), e = .returned (.tuple #[.agg #[.int .i64 a, .string b, .string c], .int .i64 (k : Int), .bool false]) ∧ Below wo.heap.size wo w') := zH (rinsert hs (by omega) hins _ (by go_num) wo)
              clear hb1 hch
              go_wp2_with (first
                | (go_at_call 19; (with_reducible refine N1.out.mono ?_); rintro e w' ⟨rfl, h0⟩; have h0 := h0.symm; subst h0)
                | (go_at_call 20; (with_reducible refine NI.out.mono ?_); rintro e w2 ⟨xa, xb, xc, rfl, h1⟩; have B2 : Hid (Below w.heap.size w w2) := zH (hbl.out.trans (h1.mono hsz0)); clear h1))
              go_ret3
              exact ⟨_, rfl, own1_nil _ _ _ _ _, by first | exact B2.out | exact B2.out.alloc B2.out.size _⟩
            | inl x =>
              obtain ⟨p, k⟩ := x
              have hin2 := insert_some (bs_bytes s) (by rw [Hln.out]; omega) (by rw [Hln.out]; omega) hins
              have POK := zH hin2.1
              have k2 : k ≤ n := by have := hin2.2.2; rw [Hln.out] at this; exact this
              have k3 : (k : Int) ≤ 4096 := by omega
              have k0 : (0 : Int) ≤ (k : Int) := Int.natCast_nonneg _
              have NI : Hid (Calls Tryd.prog 20 #[.string s, .int .i64 ((i : Int) + 1)] wo fun e w' => e = .returned (.tuple #[.agg #[.int .i64 p.kind, .string (txt p.text), .string (txt p.mark)], .int .i64 (k : Int), .bool true]) ∧ Below wo.heap.size wo w') := zH (rinsert hs (by omega) hins _ (by go_num) wo)
              clear hb1 hch
              go_upto_region 10 with (first
                | (go_at_call 19; (with_reducible refine N1.out.mono ?_); rintro e w' ⟨rfl, h0⟩; have h0 := h0.symm; subst h0)
                | (go_at_call 20; (with_reducible refine NI.out.mono ?_); rintro e w2 ⟨rfl, h1⟩; have B2 : Hid (Below w.heap.size w w2) := zH (hbl.out.trans (h1.mono hsz0)); have O2 := zH (ho.out.below h1 zL); clear h1))
              have BP := Blk.new w2 30 #[.int .i64 p.kind, .string (txt p.text), .string (txt p.mark)]
              have B3 := zH (B2.out.alloc B2.out.size (.cells #[.int .i64 p.kind, .string (txt p.text), .string (txt p.mark)] 30))
              have O3 := zH (O2.out.alloc (.cells #[.int .i64 p.kind, .string (txt p.text), .string (txt p.mark)] 30))
              obtain ⟨pb, hpb⟩ : ∃ z, w2.heap.size = z := ⟨_, rfl⟩
              rw [hpb] at BP ⊢
              generalize World.alloc w2 _ = w3 at *
              have p0 := BP.cell (i := 0) rfl
              have p1 := BP.cell (i := 1) rfl
              have p2 := BP.cell (i := 2) rfl
              have lp := BP.lt
              have hsz3 := B3.out.size
              by_cases hk : (bs s)[k]? = some 125
              · have hv := row_ins hu.out (by omega) hlb hps hb hins hk
                have HV := zH hv
                have k4 : k + 1 ≤ n := by have := (List.getElem?_eq_some_iff.1 hk).1; rw [Hln.out] at this; exact this
                have N2 : Hid (Calls Tryd.prog 19 #[.string s, .int .i64 (k : Int), .int .u8 125] w3 fun e w' => e = .returned (.bool true) ∧ w' = w3) := zH (is_any s hs (k) 125 _ _ (by go_num) rfl true (by simpa using hk) w3)
                clear hv hk BP
                go_wp2_with (first
                  | (go_at_call 19; (with_reducible refine N2.out.mono ?_); rintro e w' ⟨rfl, h0⟩; have h0 := h0.symm; subst h0)
                  | (at_builtin
                     go_must (refine wpList_append_list rfl (.tmp 51) (.tmp 53) _ (by rfl) w.heap.size (w3.heap.size + 1) 30 jp _ 3 40 Tryd.underlying22 I.out.1 I.out.2.1 I.out.2.2.1 I.out.2.2.2 rfl (by omega) (R := Pc.Is) (l := ps) (m := [p]) (.slice a m c) (by rfl) (by exact O3.out.alloc (.cells #[.int .i64 p.kind, .string (txt p.text), .string (txt p.mark)] 30)) (some ⟨w3.heap.size, 0, none⟩) 1 1 (by rfl) (SlR.new1 (w := w3) (e := 30) (g := w3.heap.size) rfl (x := [.int .i64 p.kind, .string (txt p.text), .string (txt p.mark)]) rfl (R := Pc.Is) (y := p) ⟨rfl, POK.out⟩) (m + 1) (by rw [HPL.out]) Pc.one (by unfold maxLen; have := HPL.out; omega) (by have := HPL.out; omega) (by rw [World.size_alloc]; have := B3.out.size; omega) ?_)
                     intro a5 c5 w5 hown hgr
                     go_must (have O5 := zH hown)
                     go_must (have B5 : Hid (Below w.heap.size w w5) := zH ((B3.out.alloc B3.out.size (.cells #[.int .i64 p.kind, .string (txt p.text), .string (txt p.mark)] 30)).trans (below_of_grown (O3.out.alloc (.cells #[.int .i64 p.kind, .string (txt p.text), .string (txt p.mark)] 30)) (by rw [World.size_alloc]; have := B3.out.size; omega) hgr)))
                     clear hown hgr))
                go_roundg (gk - 1)
                case measure => omega
                case rel => exact ⟨k + 1, a5, m + 1, c5, ps ++ [p], rfl, rfl, rfl, rfl, by go_num, k4, by omega, hm1, HV, O5, zH (by rw [List.length_append, HPL.out]; rfl), B5⟩
              · have hv := row_ins_no hu.out (by omega) hlb hps hb hins hk
                subst hv
                have N2 : Hid (Calls Tryd.prog 19 #[.string s, .int .i64 (k : Int), .int .u8 125] w3 fun e w' => e = .returned (.bool false) ∧ w' = w3) := zH (is_any s hs (k) 125 _ _ (by go_num) rfl false (by simpa using hk) w3)
                clear hk BP
                go_wp2_with (first
                  | (go_at_call 19; (with_reducible refine N2.out.mono ?_); rintro e w' ⟨rfl, h0⟩; have h0 := h0.symm; subst h0))
                go_ret3
                exact ⟨_, rfl, own1_nil _ _ _ _ _, B3.out⟩
          · have hbf : insB (bs s) i = false := by simpa using hb
            obtain ⟨Rw, hRw⟩ : ∃ z, wordS (bs s) (bs s).length i [] = z := ⟨_, rfl⟩
            have HW := zH hRw
            clear hRw
            by_cases c1 : (bs s)[i]? = some 123
            · have c2 : (bs s)[i + 1]? = some 123 := by
                rw [insB, c1] at hbf
                simpa using hbf
              obtain rfl : ch = 123 := by rw [hch] at c1; injection c1
              have N1 : Hid (Calls Tryd.prog 19 #[.string s, .int .i64 ((i : Int) + 1), .int .u8 123] wo fun e w' => e = .returned (.bool true) ∧ w' = wo) := zH (is_any s hs (i + 1) 123 _ _ (by go_num) rfl true (by rw [c2]; rfl) wo)
              clear c1 c2 hch
              go_wp2_with (first
                | (go_at_call 19; (with_reducible refine N1.out.mono ?_); rintro e w' ⟨rfl, h0⟩; have h0 := h0.symm; subst h0))
              obtain ⟨gl, hgl⟩ : ∃ gl, gl = gk := ⟨gk, rfl⟩
              subst hgl
              go_hide hQ
              go_loopg [2, 3, 4, 6, 10, 11] n (fun gk v2 v3 v4 v6 v10 _ wi => ∃ (k : Nat) (out : List Nat), v2 = .slice none 0 0 ∧ v3 = .int .i64 0 ∧ v4 = .int .i64 0 ∧ v6 = .int .i64 (k : Int) ∧ k ≤ n ∧ n ≤ gk + k ∧ Hid (wordS (bs s) gk k out = Rw) ∧ Hid (Own1 wi wo.heap.size 5 1 IsByte v10 out) ∧ out.length ≤ k ∧ Hid (Below wo.heap.size wo wi))
              case atStart => exact ⟨i, [], rfl, rfl, rfl, by go_num, hin, by omega, zH (by rw [← Hln.out]; exact HW.out), zH ⟨[], World.ownsRow_nil _ _ _ _, FlatR.nil_⟩, by simp, zH zB⟩
              case round =>
                obtain ⟨wi, hwi⟩ : ∃ wi, wi = wr := ⟨wr, rfl⟩
                subst hwi
                obtain ⟨k, out, rfl, rfl, rfl, rfl, hkn, hfk, hw, hoi, hol, hbi⟩ := hrel
                have k0 : (0 : Int) ≤ (k : Int) := Int.natCast_nonneg _
                have hszi := hbi.out.size
                by_cases hlk : k < n
                · have d5 : decide (k < n) = true := by simpa using hlk
                  have k2 : (k : Int) + 1 ≤ (n : Int) := by omega
                  have hkk : k < s.size := by rw [Hn.out]; exact hlk
                  obtain ⟨c', hc, c256⟩ := get_bs hkk
                  have ixk := fun W => index_txt W 9 Tryd.underlying9 hc .i64 _ rfl
                  by_cases c1 : c' = 123
                  · subst c1
                    by_cases c2 : (bs s)[k + 1]? = some 123
                    · have hv := word_two hw.out (by have := (List.getElem?_eq_some_iff.1 c2).1; rw [Hln.out] at this; omega) hc (.inl rfl) c2
                      have HV := zH hv
                      have k4 : k + 2 ≤ n := by have := (List.getElem?_eq_some_iff.1 c2).1; rw [Hln.out] at this; omega
                      have M1 : Hid (Calls Tryd.prog 19 #[.string s, .int .i64 ((k : Int) + 1), .int .u8 123] wi fun e w' => e = .returned (.bool true) ∧ w' = wi) := zH (is_any s hs (k + 1) 123 _ _ (by go_num) rfl true (by rw [c2]; rfl) wi)
                      have M2 : Hid (∀ W, Calls Tryd.prog 19 #[.string s, .int .i64 ((k : Int) + 1), .int .u8 123] W fun e w' => e = .returned (.bool true) ∧ w' = W) := zH (fun W => is_any s hs (k + 1) 123 _ _ (by go_num) rfl true (by rw [c2]; rfl) W)
                      clear hv c2 hc
                      have tokA : True := trivial
                      go_wp2_with (first
                        | (have _t := tokA; go_at_call 19; (with_reducible refine M1.out.mono ?_); rintro e w' ⟨rfl, h0⟩; have h0 := h0.symm; subst h0; clear tokA _t)
                        | (at_builtin
                           go_must (refine wpList_append_bytes rfl (.tmp 76) (.tmp 78) _ rfl wo.heap.size (wi.heap.size + 1) 5 jb Tryd.underlying50 J.out.1 J.out.2.1 J.out.2.2.1 J.out.2.2.2 (l := out) (m := [123]) u10 rfl (by exact hoi.out.alloc _) (some ⟨wi.heap.size, 0, none⟩) 1 1 rfl (by exact bytes_row (xs := [.int .u8 ((123 : Nat) : Int)]) rfl rfl (fun m hm => by simp at hm; omega) (by simp [maxLen]) 1 1 rfl rfl) (by omega) (by rw [World.size_alloc]; omega) ?_)
                           intro xa xn xc w4 hown hb4
                           go_must (have B4 : Hid (Below wo.heap.size wo w4) := zH ((hbi.out.alloc hszi _).trans hb4))
                           go_must (have O4 := zH hown)
                           clear hown hb4)
                        | (go_at_call 19; (with_reducible refine (M2.out _).mono ?_); rintro e w' ⟨rfl, h0⟩; have h0 := h0.symm; subst h0))
                      go_roundg (gk - 1)
                      case measure => omega
                      case rel => exact ⟨k + 2, out ++ [123], rfl, rfl, rfl, by go_num, k4, by omega, HV, O4, by rw [List.length_append, List.length_singleton]; omega, B4⟩
                    · have hv := word_end hw.out (fun c hcc => by rw [hc] at hcc; injection hcc with hcc; exact ⟨hcc.symm, c2⟩)
                      have M1 : Hid (Calls Tryd.prog 19 #[.string s, .int .i64 ((k : Int) + 1), .int .u8 123] wi fun e w' => e = .returned (.bool false) ∧ w' = wi) := zH (is_any s hs (k + 1) 123 _ _ (by go_num) rfl false (by simpa using c2) wi)
                      have hwd : wordS (bs s) (bs s).length i [] = .inl (out, k) := HW.out.trans hv
                      have hv2 := row_word hu.out (by omega) hlb hps hbf hwd
                      have HV := zH hv2
                      have hwi := word_in (bs_bytes s) (bs s).length i [] (Nat.le_of_lt hlb) bytes_nil
                      rw [hwd] at hwi
                      have hk1 := word_on (bs_bytes s) hlb hbf hwd
                      have POK : Hid (Pc.ok ⟨1, out, []⟩) := zH ⟨hwi.1, bytes_nil, by have h4 := hwi.2.2.2; rw [List.length_nil] at h4; show out.length ≤ 4096; omega, by simp, rfl⟩
                      have hcv := run_text_of_row 50 9 5 Tryd.underlying50 Tryd.underlying5 Tryd.underlying9 hoi.out
                      have O3 := zH (ho.out.below hbi.out zL)
                      have B3 := zH (hbl.out.trans (hbi.out.mono hsz0))
                      have hsz3 := B3.out.size
                      clear hv hwd hv2 hwi HW
                      go_wp2_with (first
                        | (go_at_call 19; (with_reducible refine M1.out.mono ?_); rintro e w' ⟨rfl, h0⟩; have h0 := h0.symm; subst h0))
                      subst hQ
                      go_wp2_with (first
                        | (at_builtin
                           go_must (refine wpList_append_list rfl (.tmp 96) (.tmp 100) _ (by rfl) w.heap.size (wi.heap.size + 1) 30 jp _ 3 40 Tryd.underlying22 I.out.1 I.out.2.1 I.out.2.2.1 I.out.2.2.2 rfl (by omega) (R := Pc.Is) (l := ps) (m := [⟨1, out, []⟩]) (.slice a m c) (by rfl) (by exact O3.out.alloc (.cells #[.int .i64 1, .string (txt out), .string ⟨#[]⟩] 30)) (some ⟨wi.heap.size, 0, none⟩) 1 1 (by rfl) (SlR.new1 (w := wi) (e := 30) (g := wi.heap.size) rfl (x := [.int .i64 1, .string (txt out), .string ⟨#[]⟩]) rfl (R := Pc.Is) (y := ⟨1, out, []⟩) ⟨rfl, POK.out⟩) (m + 1) (by rw [HPL.out]) Pc.one (by unfold maxLen; have := HPL.out; omega) (by have := HPL.out; omega) (by rw [World.size_alloc]; have := B3.out.size; omega) ?_)
                           intro a5 c5 w5 hown hgr
                           go_must (have O5 := zH hown)
                           go_must (have B5 : Hid (Below w.heap.size w w5) := zH ((B3.out.alloc B3.out.size (.cells #[.int .i64 1, .string (txt out), .string ⟨#[]⟩] 30)).trans (below_of_grown (O3.out.alloc (.cells #[.int .i64 1, .string (txt out), .string ⟨#[]⟩] 30)) (by rw [World.size_alloc]; have := B3.out.size; omega) hgr)))
                           clear hown hgr))
                      go_roundg (gl - 1)
                      case measure => omega
                      case rel => exact ⟨k, a5, m + 1, c5, ps ++ [(⟨1, out, []⟩ : Pc)], rfl, rfl, rfl, rfl, by go_num, hkn, by omega, hm1, HV, O5, zH (by rw [List.length_append, HPL.out]; rfl), B5⟩
                  · have e1k : ((c' : Int) == 123) = false := by simp; omega
                    have e1k' : ((c' : Int) != 123) = true := by simp; omega
                    by_cases c3 : c' = 125
                    · subst c3
                      by_cases c2 : (bs s)[k + 1]? = some 125
                      · have hv := word_two hw.out (by have := (List.getElem?_eq_some_iff.1 c2).1; rw [Hln.out] at this; omega) hc (.inr rfl) c2
                        have HV := zH hv
                        have k4 : k + 2 ≤ n := by have := (List.getElem?_eq_some_iff.1 c2).1; rw [Hln.out] at this; omega
                        have M2 : Hid (∀ W, Calls Tryd.prog 19 #[.string s, .int .i64 ((k : Int) + 1), .int .u8 125] W fun e w' => e = .returned (.bool true) ∧ w' = W) := zH (fun W => is_any s hs (k + 1) 125 _ _ (by go_num) rfl true (by rw [c2]; rfl) W)
                        clear hv c2 hc
                        go_wp2_with (first
                          | (at_builtin
                             go_must (refine wpList_append_bytes rfl (.tmp 76) (.tmp 78) _ rfl wo.heap.size (wi.heap.size + 1) 5 jb Tryd.underlying50 J.out.1 J.out.2.1 J.out.2.2.1 J.out.2.2.2 (l := out) (m := [125]) u10 rfl (by exact hoi.out.alloc _) (some ⟨wi.heap.size, 0, none⟩) 1 1 rfl (by exact bytes_row (xs := [.int .u8 ((125 : Nat) : Int)]) rfl rfl (fun m hm => by simp at hm; omega) (by simp [maxLen]) 1 1 rfl rfl) (by omega) (by rw [World.size_alloc]; omega) ?_)
                             intro xa xn xc w4 hown hb4
                             go_must (have B4 : Hid (Below wo.heap.size wo w4) := zH ((hbi.out.alloc hszi _).trans hb4))
                             go_must (have O4 := zH hown)
                             clear hown hb4)
                          | (go_at_call 19; (with_reducible refine (M2.out _).mono ?_); rintro e w' ⟨rfl, h0⟩; have h0 := h0.symm; subst h0))
                        go_roundg (gk - 1)
                        case measure => omega
                        case rel => exact ⟨k + 2, out ++ [125], rfl, rfl, rfl, by go_num, k4, by omega, HV, O4, by rw [List.length_append, List.length_singleton]; omega, B4⟩
                      · have hv := word_no hw.out (by omega) hc (fun ⟨a, _⟩ => c1 a) (.inr rfl) c2
                        have hwd : wordS (bs s) (bs s).length i [] = .inr (k + 1) := HW.out.trans hv
                        have hv2 := row_word_no hu.out (by omega) hlb hps hbf hwd
                        have HV := zH hv2
                        have M2 : Hid (∀ W, Calls Tryd.prog 19 #[.string s, .int .i64 ((k : Int) + 1), .int .u8 125] W fun e w' => e = .returned (.bool false) ∧ w' = W) := zH (fun W => is_any s hs (k + 1) 125 _ _ (by go_num) rfl false (by simpa using c2) W)
                        clear hv hwd hv2 c2 hc
                        go_wp2_with (first
                          | (at_builtin
                             go_must (refine wpList_append_bytes rfl (.tmp 76) (.tmp 78) _ rfl wo.heap.size (wi.heap.size + 1) 5 jb Tryd.underlying50 J.out.1 J.out.2.1 J.out.2.2.1 J.out.2.2.2 (l := out) (m := [125]) u10 rfl (by exact hoi.out.alloc _) (some ⟨wi.heap.size, 0, none⟩) 1 1 rfl (by exact bytes_row (xs := [.int .u8 ((125 : Nat) : Int)]) rfl rfl (fun m hm => by simp at hm; omega) (by simp [maxLen]) 1 1 rfl rfl) (by omega) (by rw [World.size_alloc]; omega) ?_)
                             intro xa xn xc w4 hown hb4
                             go_must (have B4 : Hid (Below wo.heap.size wo w4) := zH ((hbi.out.alloc hszi _).trans hb4))
                             go_must (have O4 := zH hown)
                             clear hown hb4)
                          | (go_at_call 19; (with_reducible refine (M2.out _).mono ?_); rintro e w' ⟨rfl, h0⟩; have h0 := h0.symm; subst h0))
                        subst hQ
                        (try simp only [Exit.inBlock, Exit.then, Exit.noGoto_ret])
                        go_ret3
                        rw [HV.out]
                        exact ⟨_, by simp, own1_nil _ _ _ _ _, hbl.out.trans (B4.out.mono hsz0)⟩
                    · have e3k : ((c' : Int) == 125) = false := by simp; omega
                      have e3k' : ((c' : Int) != 125) = true := by simp; omega
                      have hv := word_one hw.out (by omega) hc (by omega)
                      have HV := zH hv
                      clear hv hc
                      go_wp2_with (first
                        | (at_builtin
                           go_must (refine wpList_append_bytes rfl (.tmp 76) (.tmp 78) _ rfl wo.heap.size (wi.heap.size + 1) 5 jb Tryd.underlying50 J.out.1 J.out.2.1 J.out.2.2.1 J.out.2.2.2 (l := out) (m := [c']) u10 rfl (by exact hoi.out.alloc _) (some ⟨wi.heap.size, 0, none⟩) 1 1 rfl (by exact bytes_row (xs := [.int .u8 ((c' : Nat) : Int)]) rfl rfl (fun m hm => by simp at hm; omega) (by simp [maxLen]) 1 1 rfl rfl) (by omega) (by rw [World.size_alloc]; omega) ?_)
                           intro xa xn xc w4 hown hb4
                           go_must (have B4 : Hid (Below wo.heap.size wo w4) := zH ((hbi.out.alloc hszi _).trans hb4))
                           go_must (have O4 := zH hown)
                           clear hown hb4))
                      go_roundg (gk - 1)
                      case measure => omega
                      case rel => exact ⟨k + 1, out ++ [c'], rfl, rfl, rfl, by go_num, by omega, by omega, HV, O4, by rw [List.length_append, List.length_singleton]; omega, B4⟩
                · have d5 : decide (k < n) = false := by simpa using hlk
                  have hv := word_end hw.out (fun c hcc => by rw [List.getElem?_eq_none (by rw [Hln.out]; omega)] at hcc; cases hcc)
                  have hwd : wordS (bs s) (bs s).length i [] = .inl (out, k) := HW.out.trans hv
                  have hv2 := row_word hu.out (by omega) hlb hps hbf hwd
                  have HV := zH hv2
                  have hwi := word_in (bs_bytes s) (bs s).length i [] (Nat.le_of_lt hlb) bytes_nil
                  rw [hwd] at hwi
                  have hk1 := word_on (bs_bytes s) hlb hbf hwd
                  have POK : Hid (Pc.ok ⟨1, out, []⟩) := zH ⟨hwi.1, bytes_nil, by have h4 := hwi.2.2.2; rw [List.length_nil] at h4; show out.length ≤ 4096; omega, by simp, rfl⟩
                  have hcv := run_text_of_row 50 9 5 Tryd.underlying50 Tryd.underlying5 Tryd.underlying9 hoi.out
                  have O3 := zH (ho.out.below hbi.out zL)
                  have B3 := zH (hbl.out.trans (hbi.out.mono hsz0))
                  have hsz3 := B3.out.size
                  clear hv hwd hv2 hwi HW
                  go_wp2_with fail
                  subst hQ
                  go_wp2_with (first
                    | (at_builtin
                       go_must (refine wpList_append_list rfl (.tmp 96) (.tmp 100) _ (by rfl) w.heap.size (wi.heap.size + 1) 30 jp _ 3 40 Tryd.underlying22 I.out.1 I.out.2.1 I.out.2.2.1 I.out.2.2.2 rfl (by omega) (R := Pc.Is) (l := ps) (m := [⟨1, out, []⟩]) (.slice a m c) (by rfl) (by exact O3.out.alloc (.cells #[.int .i64 1, .string (txt out), .string ⟨#[]⟩] 30)) (some ⟨wi.heap.size, 0, none⟩) 1 1 (by rfl) (SlR.new1 (w := wi) (e := 30) (g := wi.heap.size) rfl (x := [.int .i64 1, .string (txt out), .string ⟨#[]⟩]) rfl (R := Pc.Is) (y := ⟨1, out, []⟩) ⟨rfl, POK.out⟩) (m + 1) (by rw [HPL.out]) Pc.one (by unfold maxLen; have := HPL.out; omega) (by have := HPL.out; omega) (by rw [World.size_alloc]; have := B3.out.size; omega) ?_)
                       intro a5 c5 w5 hown hgr
                       go_must (have O5 := zH hown)
                       go_must (have B5 : Hid (Below w.heap.size w w5) := zH ((B3.out.alloc B3.out.size (.cells #[.int .i64 1, .string (txt out), .string ⟨#[]⟩] 30)).trans (below_of_grown (O3.out.alloc (.cells #[.int .i64 1, .string (txt out), .string ⟨#[]⟩] 30)) (by rw [World.size_alloc]; have := B3.out.size; omega) hgr)))
                       clear hown hgr))
                  go_roundg (gl - 1)
                  case measure => omega
                  case rel => exact ⟨k, a5, m + 1, c5, ps ++ [(⟨1, out, []⟩ : Pc)], rfl, rfl, rfl, rfl, by go_num, hkn, by omega, hm1, HV, O5, zH (by rw [List.length_append, HPL.out]; rfl), B5⟩
            · have e4 : ((ch : Int) == 123) = false := by
                have : ch ≠ 123 := fun h => c1 (by rw [hch, h])
                simp; omega
              clear c1 hch
              go_wp2_with fail
              obtain ⟨gl, hgl⟩ : ∃ gl, gl = gk := ⟨gk, rfl⟩
              subst hgl
              go_hide hQ
              go_loopg [2, 3, 4, 6, 10, 11] n (fun gk v2 v3 v4 v6 v10 _ wi => ∃ (k : Nat) (out : List Nat), v2 = .slice none 0 0 ∧ v3 = .int .i64 0 ∧ v4 = .int .i64 0 ∧ v6 = .int .i64 (k : Int) ∧ k ≤ n ∧ n ≤ gk + k ∧ Hid (wordS (bs s) gk k out = Rw) ∧ Hid (Own1 wi wo.heap.size 5 1 IsByte v10 out) ∧ out.length ≤ k ∧ Hid (Below wo.heap.size wo wi))
              case atStart => exact ⟨i, [], rfl, rfl, rfl, by go_num, hin, by omega, zH (by rw [← Hln.out]; exact HW.out), zH ⟨[], World.ownsRow_nil _ _ _ _, FlatR.nil_⟩, by simp, zH zB⟩
              case round =>
                obtain ⟨wi, hwi⟩ : ∃ wi, wi = wr := ⟨wr, rfl⟩
                subst hwi
                obtain ⟨k, out, rfl, rfl, rfl, rfl, hkn, hfk, hw, hoi, hol, hbi⟩ := hrel
                have k0 : (0 : Int) ≤ (k : Int) := Int.natCast_nonneg _
                have hszi := hbi.out.size
                by_cases hlk : k < n
                · have d5 : decide (k < n) = true := by simpa using hlk
                  have k2 : (k : Int) + 1 ≤ (n : Int) := by omega
                  have hkk : k < s.size := by rw [Hn.out]; exact hlk
                  obtain ⟨c', hc, c256⟩ := get_bs hkk
                  have ixk := fun W => index_txt W 9 Tryd.underlying9 hc .i64 _ rfl
                  by_cases c1 : c' = 123
                  · subst c1
                    by_cases c2 : (bs s)[k + 1]? = some 123
                    · have hv := word_two hw.out (by have := (List.getElem?_eq_some_iff.1 c2).1; rw [Hln.out] at this; omega) hc (.inl rfl) c2
                      have HV := zH hv
                      have k4 : k + 2 ≤ n := by have := (List.getElem?_eq_some_iff.1 c2).1; rw [Hln.out] at this; omega
                      have M1 : Hid (Calls Tryd.prog 19 #[.string s, .int .i64 ((k : Int) + 1), .int .u8 123] wi fun e w' => e = .returned (.bool true) ∧ w' = wi) := zH (is_any s hs (k + 1) 123 _ _ (by go_num) rfl true (by rw [c2]; rfl) wi)
                      have M2 : Hid (∀ W, Calls Tryd.prog 19 #[.string s, .int .i64 ((k : Int) + 1), .int .u8 123] W fun e w' => e = .returned (.bool true) ∧ w' = W) := zH (fun W => is_any s hs (k + 1) 123 _ _ (by go_num) rfl true (by rw [c2]; rfl) W)
                      clear hv c2 hc
                      have tokA : True := trivial
                      go_wp2_with (first
                        | (have _t := tokA; go_at_call 19; (with_reducible refine M1.out.mono ?_); rintro e w' ⟨rfl, h0⟩; have h0 := h0.symm; subst h0; clear tokA _t)
                        | (at_builtin
                           go_must (refine wpList_append_bytes rfl (.tmp 76) (.tmp 78) _ rfl wo.heap.size (wi.heap.size + 1) 5 jb Tryd.underlying50 J.out.1 J.out.2.1 J.out.2.2.1 J.out.2.2.2 (l := out) (m := [123]) u10 rfl (by exact hoi.out.alloc _) (some ⟨wi.heap.size, 0, none⟩) 1 1 rfl (by exact bytes_row (xs := [.int .u8 ((123 : Nat) : Int)]) rfl rfl (fun m hm => by simp at hm; omega) (by simp [maxLen]) 1 1 rfl rfl) (by omega) (by rw [World.size_alloc]; omega) ?_)
                           intro xa xn xc w4 hown hb4
                           go_must (have B4 : Hid (Below wo.heap.size wo w4) := zH ((hbi.out.alloc hszi _).trans hb4))
                           go_must (have O4 := zH hown)
                           clear hown hb4)
                        | (go_at_call 19; (with_reducible refine (M2.out _).mono ?_); rintro e w' ⟨rfl, h0⟩; have h0 := h0.symm; subst h0))
                      go_roundg (gk - 1)
                      case measure => omega
                      case rel => exact ⟨k + 2, out ++ [123], rfl, rfl, rfl, by go_num, k4, by omega, HV, O4, by rw [List.length_append, List.length_singleton]; omega, B4⟩
                    · have hv := word_end hw.out (fun c hcc => by rw [hc] at hcc; injection hcc with hcc; exact ⟨hcc.symm, c2⟩)
                      have M1 : Hid (Calls Tryd.prog 19 #[.string s, .int .i64 ((k : Int) + 1), .int .u8 123] wi fun e w' => e = .returned (.bool false) ∧ w' = wi) := zH (is_any s hs (k + 1) 123 _ _ (by go_num) rfl false (by simpa using c2) wi)
                      have hwd : wordS (bs s) (bs s).length i [] = .inl (out, k) := HW.out.trans hv
                      have hv2 := row_word hu.out (by omega) hlb hps hbf hwd
                      have HV := zH hv2
                      have hwi := word_in (bs_bytes s) (bs s).length i [] (Nat.le_of_lt hlb) bytes_nil
                      rw [hwd] at hwi
                      have hk1 := word_on (bs_bytes s) hlb hbf hwd
                      have POK : Hid (Pc.ok ⟨1, out, []⟩) := zH ⟨hwi.1, bytes_nil, by have h4 := hwi.2.2.2; rw [List.length_nil] at h4; show out.length ≤ 4096; omega, by simp, rfl⟩
                      have hcv := run_text_of_row 50 9 5 Tryd.underlying50 Tryd.underlying5 Tryd.underlying9 hoi.out
                      have O3 := zH (ho.out.below hbi.out zL)
                      have B3 := zH (hbl.out.trans (hbi.out.mono hsz0))
                      have hsz3 := B3.out.size
                      clear hv hwd hv2 hwi HW
                      go_wp2_with (first
                        | (go_at_call 19; (with_reducible refine M1.out.mono ?_); rintro e w' ⟨rfl, h0⟩; have h0 := h0.symm; subst h0))
                      subst hQ
                      go_wp2_with (first
                        | (at_builtin
                           go_must (refine wpList_append_list rfl (.tmp 96) (.tmp 100) _ (by rfl) w.heap.size (wi.heap.size + 1) 30 jp _ 3 40 Tryd.underlying22 I.out.1 I.out.2.1 I.out.2.2.1 I.out.2.2.2 rfl (by omega) (R := Pc.Is) (l := ps) (m := [⟨1, out, []⟩]) (.slice a m c) (by rfl) (by exact O3.out.alloc (.cells #[.int .i64 1, .string (txt out), .string ⟨#[]⟩] 30)) (some ⟨wi.heap.size, 0, none⟩) 1 1 (by rfl) (SlR.new1 (w := wi) (e := 30) (g := wi.heap.size) rfl (x := [.int .i64 1, .string (txt out), .string ⟨#[]⟩]) rfl (R := Pc.Is) (y := ⟨1, out, []⟩) ⟨rfl, POK.out⟩) (m + 1) (by rw [HPL.out]) Pc.one (by unfold maxLen; have := HPL.out; omega) (by have := HPL.out; omega) (by rw [World.size_alloc]; have := B3.out.size; omega) ?_)
                           intro a5 c5 w5 hown hgr
                           go_must (have O5 := zH hown)
                           go_must (have B5 : Hid (Below w.heap.size w w5) := zH ((B3.out.alloc B3.out.size (.cells #[.int .i64 1, .string (txt out), .string ⟨#[]⟩] 30)).trans (below_of_grown (O3.out.alloc (.cells #[.int .i64 1, .string (txt out), .string ⟨#[]⟩] 30)) (by rw [World.size_alloc]; have := B3.out.size; omega) hgr)))
                           clear hown hgr))
                      go_roundg (gl - 1)
                      case measure => omega
                      case rel => exact ⟨k, a5, m + 1, c5, ps ++ [(⟨1, out, []⟩ : Pc)], rfl, rfl, rfl, rfl, by go_num, hkn, by omega, hm1, HV, O5, zH (by rw [List.length_append, HPL.out]; rfl), B5⟩
                  · have e1k : ((c' : Int) == 123) = false := by simp; omega
                    have e1k' : ((c' : Int) != 123) = true := by simp; omega
                    by_cases c3 : c' = 125
                    · subst c3
                      by_cases c2 : (bs s)[k + 1]? = some 125
                      · have hv := word_two hw.out (by have := (List.getElem?_eq_some_iff.1 c2).1; rw [Hln.out] at this; omega) hc (.inr rfl) c2
                        have HV := zH hv
                        have k4 : k + 2 ≤ n := by have := (List.getElem?_eq_some_iff.1 c2).1; rw [Hln.out] at this; omega
                        have M2 : Hid (∀ W, Calls Tryd.prog 19 #[.string s, .int .i64 ((k : Int) + 1), .int .u8 125] W fun e w' => e = .returned (.bool true) ∧ w' = W) := zH (fun W => is_any s hs (k + 1) 125 _ _ (by go_num) rfl true (by rw [c2]; rfl) W)
                        clear hv c2 hc
                        go_wp2_with (first
                          | (at_builtin
                             go_must (refine wpList_append_bytes rfl (.tmp 76) (.tmp 78) _ rfl wo.heap.size (wi.heap.size + 1) 5 jb Tryd.underlying50 J.out.1 J.out.2.1 J.out.2.2.1 J.out.2.2.2 (l := out) (m := [125]) u10 rfl (by exact hoi.out.alloc _) (some ⟨wi.heap.size, 0, none⟩) 1 1 rfl (by exact bytes_row (xs := [.int .u8 ((125 : Nat) : Int)]) rfl rfl (fun m hm => by simp at hm; omega) (by simp [maxLen]) 1 1 rfl rfl) (by omega) (by rw [World.size_alloc]; omega) ?_)
                             intro xa xn xc w4 hown hb4
                             go_must (have B4 : Hid (Below wo.heap.size wo w4) := zH ((hbi.out.alloc hszi _).trans hb4))
                             go_must (have O4 := zH hown)
                             clear hown hb4)
                          | (go_at_call 19; (with_reducible refine (M2.out _).mono ?_); rintro e w' ⟨rfl, h0⟩; have h0 := h0.symm; subst h0))
                        go_roundg (gk - 1)
                        case measure => omega
                        case rel => exact ⟨k + 2, out ++ [125], rfl, rfl, rfl, by go_num, k4, by omega, HV, O4, by rw [List.length_append, List.length_singleton]; omega, B4⟩
                      · have hv := word_no hw.out (by omega) hc (fun ⟨a, _⟩ => c1 a) (.inr rfl) c2
                        have hwd : wordS (bs s) (bs s).length i [] = .inr (k + 1) := HW.out.trans hv
                        have hv2 := row_word_no hu.out (by omega) hlb hps hbf hwd
                        have HV := zH hv2
                        have M2 : Hid (∀ W, Calls Tryd.prog 19 #[.string s, .int .i64 ((k : Int) + 1), .int .u8 125] W fun e w' => e = .returned (.bool false) ∧ w' = W) := zH (fun W => is_any s hs (k + 1) 125 _ _ (by go_num) rfl false (by simpa using c2) W)
                        clear hv hwd hv2 c2 hc
                        go_wp2_with (first
                          | (at_builtin
                             go_must (refine wpList_append_bytes rfl (.tmp 76) (.tmp 78) _ rfl wo.heap.size (wi.heap.size + 1) 5 jb Tryd.underlying50 J.out.1 J.out.2.1 J.out.2.2.1 J.out.2.2.2 (l := out) (m := [125]) u10 rfl (by exact hoi.out.alloc _) (some ⟨wi.heap.size, 0, none⟩) 1 1 rfl (by exact bytes_row (xs := [.int .u8 ((125 : Nat) : Int)]) rfl rfl (fun m hm => by simp at hm; omega) (by simp [maxLen]) 1 1 rfl rfl) (by omega) (by rw [World.size_alloc]; omega) ?_)
                             intro xa xn xc w4 hown hb4
                             go_must (have B4 : Hid (Below wo.heap.size wo w4) := zH ((hbi.out.alloc hszi _).trans hb4))
                             go_must (have O4 := zH hown)
                             clear hown hb4)
                          | (go_at_call 19; (with_reducible refine (M2.out _).mono ?_); rintro e w' ⟨rfl, h0⟩; have h0 := h0.symm; subst h0))
                        subst hQ
                        (try simp only [Exit.inBlock, Exit.then, Exit.noGoto_ret])
                        go_ret3
                        rw [HV.out]
                        exact ⟨_, by simp, own1_nil _ _ _ _ _, hbl.out.trans (B4.out.mono hsz0)⟩
                    · have e3k : ((c' : Int) == 125) = false := by simp; omega
                      have e3k' : ((c' : Int) != 125) = true := by simp; omega
                      have hv := word_one hw.out (by omega) hc (by omega)
                      have HV := zH hv
                      clear hv hc
                      go_wp2_with (first
                        | (at_builtin
                           go_must (refine wpList_append_bytes rfl (.tmp 76) (.tmp 78) _ rfl wo.heap.size (wi.heap.size + 1) 5 jb Tryd.underlying50 J.out.1 J.out.2.1 J.out.2.2.1 J.out.2.2.2 (l := out) (m := [c']) u10 rfl (by exact hoi.out.alloc _) (some ⟨wi.heap.size, 0, none⟩) 1 1 rfl (by exact bytes_row (xs := [.int .u8 ((c' : Nat) : Int)]) rfl rfl (fun m hm => by simp at hm; omega) (by simp [maxLen]) 1 1 rfl rfl) (by omega) (by rw [World.size_alloc]; omega) ?_)
                           intro xa xn xc w4 hown hb4
                           go_must (have B4 : Hid (Below wo.heap.size wo w4) := zH ((hbi.out.alloc hszi _).trans hb4))
                           go_must (have O4 := zH hown)
                           clear hown hb4))
                      go_roundg (gk - 1)
                      case measure => omega
                      case rel => exact ⟨k + 1, out ++ [c'], rfl, rfl, rfl, by go_num, by omega, by omega, HV, O4, by rw [List.length_append, List.length_singleton]; omega, B4⟩
                · have d5 : decide (k < n) = false := by simpa using hlk
                  have hv := word_end hw.out (fun c hcc => by rw [List.getElem?_eq_none (by rw [Hln.out]; omega)] at hcc; cases hcc)
                  have hwd : wordS (bs s) (bs s).length i [] = .inl (out, k) := HW.out.trans hv
                  have hv2 := row_word hu.out (by omega) hlb hps hbf hwd
                  have HV := zH hv2
                  have hwi := word_in (bs_bytes s) (bs s).length i [] (Nat.le_of_lt hlb) bytes_nil
                  rw [hwd] at hwi
                  have hk1 := word_on (bs_bytes s) hlb hbf hwd
                  have POK : Hid (Pc.ok ⟨1, out, []⟩) := zH ⟨hwi.1, bytes_nil, by have h4 := hwi.2.2.2; rw [List.length_nil] at h4; show out.length ≤ 4096; omega, by simp, rfl⟩
                  have hcv := run_text_of_row 50 9 5 Tryd.underlying50 Tryd.underlying5 Tryd.underlying9 hoi.out
                  have O3 := zH (ho.out.below hbi.out zL)
                  have B3 := zH (hbl.out.trans (hbi.out.mono hsz0))
                  have hsz3 := B3.out.size
                  clear hv hwd hv2 hwi HW
                  go_wp2_with fail
                  subst hQ
                  go_wp2_with (first
                    | (at_builtin
                       go_must (refine wpList_append_list rfl (.tmp 96) (.tmp 100) _ (by rfl) w.heap.size (wi.heap.size + 1) 30 jp _ 3 40 Tryd.underlying22 I.out.1 I.out.2.1 I.out.2.2.1 I.out.2.2.2 rfl (by omega) (R := Pc.Is) (l := ps) (m := [⟨1, out, []⟩]) (.slice a m c) (by rfl) (by exact O3.out.alloc (.cells #[.int .i64 1, .string (txt out), .string ⟨#[]⟩] 30)) (some ⟨wi.heap.size, 0, none⟩) 1 1 (by rfl) (SlR.new1 (w := wi) (e := 30) (g := wi.heap.size) rfl (x := [.int .i64 1, .string (txt out), .string ⟨#[]⟩]) rfl (R := Pc.Is) (y := ⟨1, out, []⟩) ⟨rfl, POK.out⟩) (m + 1) (by rw [HPL.out]) Pc.one (by unfold maxLen; have := HPL.out; omega) (by have := HPL.out; omega) (by rw [World.size_alloc]; have := B3.out.size; omega) ?_)
                       intro a5 c5 w5 hown hgr
                       go_must (have O5 := zH hown)
                       go_must (have B5 : Hid (Below w.heap.size w w5) := zH ((B3.out.alloc B3.out.size (.cells #[.int .i64 1, .string (txt out), .string ⟨#[]⟩] 30)).trans (below_of_grown (O3.out.alloc (.cells #[.int .i64 1, .string (txt out), .string ⟨#[]⟩] 30)) (by rw [World.size_alloc]; have := B3.out.size; omega) hgr)))
                       clear hown hgr))
                  go_roundg (gl - 1)
                  case measure => omega
                  case rel => exact ⟨k, a5, m + 1, c5, ps ++ [(⟨1, out, []⟩ : Pc)], rfl, rfl, rfl, rfl, by go_num, hkn, by omega, hm1, HV, O5, zH (by rw [List.length_append, HPL.out]; rfl), B5⟩
            
      · have d3 : decide (i < n) = false := by simpa using hlt
        have hv := row_end hu.out (by rw [Hln.out]; omega)
        subst hv
        go_wp2_with fail
        go_ret3
        exact ⟨_, rfl, ho.out, hbl.out⟩
end Go.Proofs.YtpkggobhhieeoaaDoor
