/- The law's walk: 'topiarylaw07.LexParts' returns true whatever the two texts; the variables hold what the texts lay. -/
import Derived.Test.YtjjppnfdnjdhlaaDoorSame
import Derived.Test.YtjjppnfdnjdhlaaDoorLs
import Derived.Test.YtjjppnfdnjdhlaaDoorBlk
import Derived.IntWalk
namespace Go.Proofs.YtjjppnfdnjdhlaaDoor
open Go.RowKit

section
variable {α : Type} {w : World} {B size n c k : Nat} {R : List Value → α → Prop} {a : Option Addr} {l : List α}
theorem SlR.take_ (h : SlR w B size R (.slice a n c) l) (hk : k ≤ n) : SlR w B size R (.slice a k c) (l.take k) := by
  have hn := h.len
  have hc := h.caps
  obtain ⟨a', c', hv, h1, h2, h3⟩ := h
  injection hv with e1 e2 e3
  subst e1 e3
  have hl : (l.take k).length = k := by rw [List.length_take]; omega
  refine ⟨a, c, by rw [hl], by rw [hl]; omega, h2, fun h0 => ?_⟩
  obtain ⟨b, off, g1, g2, g3⟩ := h3 (by rw [hl] at h0; omega)
  refine ⟨b, off, g1, g2, fun i y hy => g3 i y ?_⟩
  have hi : i < k := by have := (List.getElem?_eq_some_iff.1 hy).1; omega
  rw [List.getElem?_take_of_lt hi] at hy
  exact hy
theorem SlR.drop_ {b off : Nat} (h : SlR w B size R (.slice (some ⟨b, off, none⟩) n c) l) (hk : k ≤ n) : SlR w B size R (.slice (some ⟨b, off + k * size, none⟩) (n - k) (c - k)) (l.drop k) := by
  have hn := h.len
  have hc := h.caps
  obtain ⟨a', c', hv, h1, h2, h3⟩ := h
  injection hv with e1 e2 e3
  subst e1 e3
  have hl : (l.drop k).length = n - k := by rw [List.length_drop]; omega
  refine ⟨some ⟨b, off + k * size, none⟩, c - k, by rw [hl], by rw [hl]; omega, by omega, fun h0 => ⟨b, off + k * size, rfl, ?_, fun i y hy => ?_⟩⟩
  · obtain ⟨b', off', g1, g2, g3⟩ := h3 (by rw [hl] at h0; omega)
    injection g1 with g1
    injection g1 with g1
    subst g1
    exact g2
  · obtain ⟨b', off', g1, g2, g3⟩ := h3 (by rw [hl] at h0; omega)
    injection g1 with g1
    injection g1 with q1 q2
    subst q1 q2
    rw [List.getElem?_drop] at hy
    obtain ⟨x, hx1, hx2, hx3⟩ := g3 (k + i) y hy
    refine ⟨x, hx1, hx2, fun j u hu => ?_⟩
    have := hx3 j u hu
    have e : off + (k + i) * size + j = off + k * size + i * size + j := by rw [Nat.add_mul]; omega
    rw [e] at this
    exact this
end
theorem scan_place_le {l : List Nat} (hl : Bytes l) : (scanN l).2.1 ≤ l.length := by
  by_cases h4 : l.length ≤ 4096
  · by_cases he : (scanN l).2.2 = 0
    · rcases scan_cases hl h4 with ⟨T, i', hT, e⟩ | ⟨T, r', i', n, hT, hs, e⟩
      · rw [e]; exact Nat.zero_le _
      · rw [e] at he; exact absurd he (by simp)
    · exact (stops_law hl h4 he).2.1
  · have e : scanN l = ([], 0, 3) := by unfold scanN; rw [if_pos (by omega)]
    rw [e]; exact Nat.zero_le _
theorem scan_places {l : List Nat} (hl : Bytes l) : ∀ t ∈ (scanN l).1, 0 ≤ t.place ∧ t.place ≤ 4096 := by
  by_cases h4 : l.length ≤ 4096
  · rcases scan_cases hl h4 with ⟨T, i', hT, e⟩ | ⟨T, r', i', n, hT, hs, e⟩
    · rw [e]
      intro t ht
      obtain ⟨k, hk⟩ := List.mem_iff_getElem?.1 ht
      obtain ⟨p, h1, h2, h3, _⟩ := run_places hT hl k t hk
      omega
    · rw [e]; exact fun t h => by simp at h
  · have e : scanN l = ([], 0, 3) := by unfold scanN; rw [if_pos (by omega)]
    rw [e]; exact fun t h => by simp at h
theorem alike_refl : ∀ (l : List Tok), eqBy (alikeP false) l l = true
  | [] => rfl
  | a :: l => by simp [eqBy, alikeP, alike_refl l]
theorem alike_shift (d : Nat) : ∀ (l : List Tok), eqBy (alikeP false) (l.map (Tok.shift d)) l = true
  | [] => rfl
  | a :: l => by simp [eqBy, alikeP, alike_shift d l, Tok.shift]

set_option maxRecDepth 100000 in
set_option maxHeartbeats 8000000 in
theorem parts_walk (s t : ByteArray) (hss : s.size ≤ 140737488351232) (htt : t.size ≤ 140737488351232) (w : World) (hm : Marks w) (hp : Pow w) :
    Calls Tryd.prog 8 #[.string s, .string t] w fun e w' => e = .returned (.bool true) ∧ Below w.heap.size w w' := by
  have AW := Lib.hid (awake_any w hm hp)
  have SC : Hid (∀ (x : ByteArray) (W : World), x.size ≤ maxLen → Below w.heap.size w W → Calls Tryd.prog 9 #[.string x] W (ScanIs W (scanN (bs x)))) := Lib.hid (fun x W hx hW => scan_any x hx W (hm.below hW))
  obtain ⟨n, hn⟩ : ∃ n, s.size = n := ⟨_, rfl⟩
  obtain ⟨m, hmm⟩ : ∃ m, t.size = m := ⟨_, rfl⟩
  have hn' : (s.size : Int) = (n : Int) := by rw [hn]
  have hm' : (t.size : Int) = (m : Int) := by rw [hmm]
  rw [hn] at hss
  rw [hmm] at htt
  have Hn := Lib.hid (And.intro hn hmm)
  clear hm hp hn hmm
  by_cases h1 : 4096 < n
  · have d1 : decide (4096 < (n : Int)) = true := by simp; omega
    go_enter Tryd.func8, Tryd.ntmps8
    go_wp2_with (first
    | (go_at_call 14
       refine AW.out.mono ?_
       rintro e w0 ⟨rfl, b0⟩
       have B0 := Lib.hid b0
       clear b0))
    go_ret
    exact ⟨rfl, B0.out⟩
  have d1 : decide (4096 < (n : Int)) = false := by simp; omega
  by_cases h2 : 4096 < m
  · have d2 : decide (4096 < (m : Int)) = true := by simp; omega
    go_enter Tryd.func8, Tryd.ntmps8
    go_wp2_with (first
    | (go_at_call 14
       refine AW.out.mono ?_
       rintro e w0 ⟨rfl, b0⟩
       have B0 := Lib.hid b0
       clear b0))
    go_ret
    exact ⟨rfl, B0.out⟩
  have d2 : decide (4096 < (m : Int)) = false := by simp; omega
  by_cases h3 : 4096 < n + m + 1
  · have d3 : decide (4096 < (n : Int) + (m : Int) + 1) = true := by simp only [decide_eq_true_eq]; omega
    go_enter Tryd.func8, Tryd.ntmps8
    go_wp2_with (first
    | (go_at_call 14
       refine AW.out.mono ?_
       rintro e w0 ⟨rfl, b0⟩
       have B0 := Lib.hid b0
       clear b0))
    go_ret
    exact ⟨rfl, B0.out⟩
  have d3 : decide (4096 < (n : Int) + (m : Int) + 1) = false := by simp only [decide_eq_false_iff_not]; omega
  have hab := parts_law (bs_bytes s) (bs_bytes t) (by rw [bs_len, bs_len, Hn.out.1, Hn.out.2]; omega)
  have hcat : bs (s ++ ⟨#[32]⟩ ++ t) = bs s ++ 32 :: bs t := by rw [bs_append, bs_append, List.append_assoc]; rfl
  have hcs : (s ++ ⟨#[32]⟩ ++ t).size ≤ maxLen := by rw [← bs_len, hcat, List.length_append, List.length_cons, bs_len, bs_len, Hn.out.1, Hn.out.2]; unfold maxLen; omega
  have hsl := scanN_len (bs s)
  have htl := scanN_len (bs t)
  have hbp := scan_place_le (bs_bytes t)
  have hpl := scan_places (bs_bytes t)
  rw [bs_len, Hn.out.2] at hbp
  obtain ⟨A, hA⟩ : ∃ A, scanN (bs s) = A := ⟨_, rfl⟩
  obtain ⟨B, hB⟩ : ∃ B, scanN (bs t) = B := ⟨_, rfl⟩
  obtain ⟨N, hN⟩ : ∃ N, scanN (bs s ++ 32 :: bs t) = N := ⟨_, rfl⟩
  have SA : Hid (∀ W, Below w.heap.size w W → Calls Tryd.prog 9 #[.string s] W (ScanIs W A)) := Lib.hid (fun W hW => hA ▸ SC.out s W (by rw [Hn.out.1]; unfold maxLen; omega) hW)
  have SB : Hid (∀ W, Below w.heap.size w W → Calls Tryd.prog 9 #[.string t] W (ScanIs W B)) := Lib.hid (fun W hW => hB ▸ SC.out t W (by rw [Hn.out.2]; unfold maxLen; omega) hW)
  have SN : Hid (∀ W, Below w.heap.size w W → Calls Tryd.prog 9 #[.string (s ++ ⟨#[32]⟩ ++ t)] W (ScanIs W N)) := Lib.hid (fun W hW => by
    have := SC.out (s ++ ⟨#[32]⟩ ++ t) W hcs hW
    rw [hcat, hN] at this
    exact this)
  rw [hA, hB, hN, bs_len, Hn.out.1] at hab
  rw [hA] at hsl
  rw [hB] at htl hbp hpl
  obtain ⟨A, aa, ae⟩ := A
  obtain ⟨B, ba, be⟩ := B
  obtain ⟨N, na, ne⟩ := N
  dsimp only at hab hsl htl hbp hpl
  have Hpl := Lib.hid hpl
  clear hpl
  obtain ⟨p1, p2, p3⟩ := hab
  have tok1 : True := trivial
  have tok2 : True := trivial
  have tok3 : True := trivial
  have tok4 : True := trivial
  have tok5 : True := trivial
  have ZA : decide ((0 : Int) ≤ (aa : Int)) = true := by simp
  clear hcat hcs hA hB hN
  by_cases hae : ae = 0
  rotate_left
  · have ha1 : ((ae : Int) == 0) = false := by simp; omega
    have ha2 : ((ae : Int) != 0) = true := by simp; omega
    rcases p1 hae with h | ⟨h, h'⟩
    · subst h
      clear p1 p2 p3 hae
      go_enter Tryd.func8, Tryd.ntmps8
      go_wp2_with (first
    | (go_at_call 14
       refine AW.out.mono ?_
       rintro e w0 ⟨rfl, b0⟩
       have B0 := Lib.hid b0
       clear b0)
    | (go_at_call 9
       have _t := tok1
       refine (SA.out _ B0.out).mono ?_
       rintro e w1 ⟨a1, n1, c1, rfl, o1, b1⟩
       have O1 := Lib.hid o1
       have B1 := Lib.hid (B0.out.trans (b1.mono B0.out.size))
       clear o1 b1 tok1 _t)
    | (go_at_call 9
       have _t := tok2
       refine (SB.out _ B1.out).mono ?_
       rintro e w2 ⟨a2, n2, c2, rfl, o2, b2⟩
       have O2 := Lib.hid o2
       have B2 := Lib.hid (B1.out.trans (b2.mono B1.out.size))
       have P1 := Lib.hid (O1.out.below b2 (Nat.le_refl _))
       clear o2 b2 tok2 _t)
    | (go_at_call 9
       have _t := tok3
       refine (SN.out _ B2.out).mono ?_
       rintro e w3 ⟨a3, n3, c3, rfl, o3, b3⟩
       have O3 := Lib.hid o3
       have B3 := Lib.hid (B2.out.trans (b3.mono B2.out.size))
       have Q1 := Lib.hid (P1.out.below b3 (Nat.le_refl _))
       have Q2 := Lib.hid (O2.out.below b3 (Nat.le_refl _))
       clear o3 b3 tok3 _t))
      go_ret
      exact ⟨rfl, B3.out⟩
    · subst h
      have d4 : decide ((aa : Int) ≤ (na : Int)) = true := by simp; omega
      clear p1 p2 p3 hae
      go_enter Tryd.func8, Tryd.ntmps8
      go_wp2_with (first
    | (go_at_call 14
       refine AW.out.mono ?_
       rintro e w0 ⟨rfl, b0⟩
       have B0 := Lib.hid b0
       clear b0)
    | (go_at_call 9
       have _t := tok1
       refine (SA.out _ B0.out).mono ?_
       rintro e w1 ⟨a1, n1, c1, rfl, o1, b1⟩
       have O1 := Lib.hid o1
       have B1 := Lib.hid (B0.out.trans (b1.mono B0.out.size))
       clear o1 b1 tok1 _t)
    | (go_at_call 9
       have _t := tok2
       refine (SB.out _ B1.out).mono ?_
       rintro e w2 ⟨a2, n2, c2, rfl, o2, b2⟩
       have O2 := Lib.hid o2
       have B2 := Lib.hid (B1.out.trans (b2.mono B1.out.size))
       have P1 := Lib.hid (O1.out.below b2 (Nat.le_refl _))
       clear o2 b2 tok2 _t)
    | (go_at_call 9
       have _t := tok3
       refine (SN.out _ B2.out).mono ?_
       rintro e w3 ⟨a3, n3, c3, rfl, o3, b3⟩
       have O3 := Lib.hid o3
       have B3 := Lib.hid (B2.out.trans (b3.mono B2.out.size))
       have Q1 := Lib.hid (P1.out.below b3 (Nat.le_refl _))
       have Q2 := Lib.hid (O2.out.below b3 (Nat.le_refl _))
       clear o3 b3 tok3 _t))
      go_ret
      exact ⟨rfl, B3.out⟩
  subst hae
  by_cases hbe : be = 0
  rotate_left
  · have hb1 : ((be : Int) == 0) = false := by simp; omega
    have hb2 : ((be : Int) != 0) = true := by simp; omega
    obtain ⟨h, h'⟩ := p2 rfl hbe
    subst h
    have d5 : ((na : Int) == (n : Int) + 1 + (ba : Int)) = true := by simp; omega
    clear p1 p2 p3 hbe h'
    go_enter Tryd.func8, Tryd.ntmps8
    go_wp2_with (first
    | (go_at_call 14
       refine AW.out.mono ?_
       rintro e w0 ⟨rfl, b0⟩
       have B0 := Lib.hid b0
       clear b0)
    | (go_at_call 9
       have _t := tok1
       refine (SA.out _ B0.out).mono ?_
       rintro e w1 ⟨a1, n1, c1, rfl, o1, b1⟩
       have O1 := Lib.hid o1
       have B1 := Lib.hid (B0.out.trans (b1.mono B0.out.size))
       clear o1 b1 tok1 _t)
    | (go_at_call 9
       have _t := tok2
       refine (SB.out _ B1.out).mono ?_
       rintro e w2 ⟨a2, n2, c2, rfl, o2, b2⟩
       have O2 := Lib.hid o2
       have B2 := Lib.hid (B1.out.trans (b2.mono B1.out.size))
       have P1 := Lib.hid (O1.out.below b2 (Nat.le_refl _))
       clear o2 b2 tok2 _t)
    | (go_at_call 9
       have _t := tok3
       refine (SN.out _ B2.out).mono ?_
       rintro e w3 ⟨a3, n3, c3, rfl, o3, b3⟩
       have O3 := Lib.hid o3
       have B3 := Lib.hid (B2.out.trans (b3.mono B2.out.size))
       have Q1 := Lib.hid (P1.out.below b3 (Nat.le_refl _))
       have Q2 := Lib.hid (O2.out.below b3 (Nat.le_refl _))
       clear o3 b3 tok3 _t))
    go_ret
    exact ⟨rfl, B3.out⟩
  subst hbe
  have hN := p3 rfl rfl
  injection hN with hN hN2
  injection hN2 with hN2 hN3
  subst hN2 hN3
  have hNl : N.length = A.length + B.length := by rw [hN, List.length_append, List.length_map]
  have HN := Lib.hid hN
  clear p1 p2 p3 hN
  obtain ⟨na', hna⟩ : ∃ x, A.length = x := ⟨_, rfl⟩
  obtain ⟨nb', hnb⟩ : ∃ x, B.length = x := ⟨_, rfl⟩
  rw [hna] at hsl hNl
  rw [hnb] at htl hNl
  have e4 : eqBy (alikeP false) (N.take na') A = true := by rw [HN.out, ← hna, List.take_left]; exact alike_refl A
  have e5 : eqBy (alikeP false) (N.drop na') B = true := by rw [HN.out, ← hna, List.drop_left]; exact alike_shift _ B
  have E4 := Lib.hid e4
  obtain ⟨ND, hND⟩ : ∃ ND, N.drop na' = ND := ⟨_, rfl⟩
  rw [hND] at e5
  have E5 := Lib.hid e5
  have HND := Lib.hid hND
  clear e4 e5 hND
  have HL := Lib.hid (And.intro hna (And.intro hnb hNl))
  clear hna hnb hNl
  go_enter Tryd.func8, Tryd.ntmps8
  go_wp2_with (first
    | (go_at_call 14
       refine AW.out.mono ?_
       rintro e w0 ⟨rfl, b0⟩
       have B0 := Lib.hid b0
       clear b0)
    | (go_at_call 9
       have _t := tok1
       refine (SA.out _ B0.out).mono ?_
       rintro e w1 ⟨a1, n1, c1, rfl, o1, b1⟩
       have O1 := Lib.hid o1
       have B1 := Lib.hid (B0.out.trans (b1.mono B0.out.size))
       clear o1 b1 tok1 _t)
    | (go_at_call 9
       have _t := tok2
       refine (SB.out _ B1.out).mono ?_
       rintro e w2 ⟨a2, n2, c2, rfl, o2, b2⟩
       have O2 := Lib.hid o2
       have B2 := Lib.hid (B1.out.trans (b2.mono B1.out.size))
       have P1 := Lib.hid (O1.out.below b2 (Nat.le_refl _))
       clear o2 b2 tok2 _t)
    | (go_at_call 9
       have _t := tok3
       refine (SN.out _ B2.out).mono ?_
       rintro e w3 ⟨a3, n3, c3, rfl, o3, b3⟩
       have O3 := Lib.hid o3
       have B3 := Lib.hid (B2.out.trans (b3.mono B2.out.size))
       have Q1 := Lib.hid (P1.out.below b3 (Nat.le_refl _))
       have Q2 := Lib.hid (O2.out.below b3 (Nat.le_refl _))
       have hx1 : n1 = na' := by obtain ⟨_, _, h⟩ := O1.out.form; injection h with _ h _; rw [h]; exact HL.out.1
       have hx2 : n2 = nb' := by obtain ⟨_, _, h⟩ := O2.out.form; injection h with _ h _; rw [h]; exact HL.out.2.1
       have hx3 : n3 = na' + nb' := by obtain ⟨_, _, h⟩ := O3.out.form; injection h with _ h _; rw [h]; exact HL.out.2.2
       subst hx1 hx2 hx3
       have hcap := (O3.out.read (by omega)).caps.1
       have hcm := (O3.out.read (by omega)).caps.2
       unfold maxLen at hcm
       have hform : (a3 = none ∧ c3 = 0 ∧ n1 = 0 ∧ n2 = 0) ∨ (∃ g, a3 = some ⟨g, 0, none⟩ ∧ (n1 = c3 ∨ n1 < c3)) := by
         obtain ⟨xs, ho, _⟩ := O3.out
         rcases ho.2 with ⟨hv, h0⟩ | ⟨g, cap, cur, hv, _⟩
         · injection hv with h1 h2 h3
           exact Or.inl ⟨h1, h3, by omega, by omega⟩
         · injection hv with h1 h2 h3
           exact Or.inr ⟨g, h1, by omega⟩
       clear o3 b3 tok3 _t
       rcases hform with ⟨rfl, rfl, rfl, rfl⟩ | ⟨g, rfl, rfl | hcc⟩
       all_goals (try have hne : ¬ c3 = n1 := by omega)
       all_goals (try have hne2 : ¬ n1 = c3 := by omega))
    | (go_at_call 15
       have _t := tok4
       refine (same_any _ w3 ((O3.out.read (by omega)).take_ (by omega)) (Q1.out.read (by omega)) (Below.refl _ _)).mono ?_
       rw [E4.out]
       rintro e w4 ⟨rfl, b4⟩
       have B4 := Lib.hid (B3.out.trans (b4.mono B3.out.size))
       have P4 := Lib.hid (And.intro (O3.out.below b4 (Nat.le_refl _)) (Q2.out.below b4 (Nat.le_refl _)))
       clear b4 tok4 _t)
    | (go_at_call 15
       have _t := tok5
       refine (same_any (l := ND) _ w4 (by rw [← HND.out]; first | exact (P4.out.1.read (by omega)).drop_ (by omega) | (have h := (P4.out.1.read (by omega)).drop_ (k := n1) (by omega); simpa using h) | (rw [List.drop_of_length_le (by have := HL.out.2.2; omega)]; exact SlR.nil_ _ (by unfold maxLen; omega) _)) (P4.out.2.read (by omega)) (Below.refl _ _)).mono ?_
       rw [E5.out]
       rintro e w5 ⟨rfl, b5⟩
       have B5 := Lib.hid (B4.out.trans (b5.mono B4.out.size))
       have P5 := Lib.hid (And.intro (P4.out.1.below b5 (Nat.le_refl _)) (P4.out.2.below b5 (Nat.le_refl _)))
       clear b5 tok5 _t))
  all_goals (try (exfalso; omega))
  · skip
    go_loopw [14] (fun i wr => ∃ k : Nat, k ≤ 0 ∧ i = .int .i64 (k : Int) ∧ Hid (Below w.heap.size w wr)) (fun _ _ => 0)
    case atStart => exact ⟨0, Nat.le_refl _, by go_num, B5.out⟩
    case round =>
      obtain ⟨k, hk, rfl, hb⟩ := hrel
      obtain rfl : k = 0 := by omega
      have d9 : decide (((0 : Nat) : Int) < 0) = false := by decide
      go_wp2_with fail
      go_ret
      exact ⟨rfl, hb.out⟩
  · have hz : n2 = 0 := by omega
    subst hz
    go_loopw [14] (fun i wr => ∃ k : Nat, k ≤ 0 ∧ i = .int .i64 (k : Int) ∧ Hid (Below w.heap.size w wr)) (fun _ _ => 0)
    case atStart => exact ⟨0, Nat.le_refl _, by go_num, B5.out⟩
    case round =>
      obtain ⟨k, hk, rfl, hb⟩ := hrel
      obtain rfl : k = 0 := by omega
      have d9 : decide (((0 : Nat) : Int) < 0) = false := by decide
      go_wp2_with fail
      go_ret
      exact ⟨rfl, hb.out⟩
  · go_loopw [14] (fun i wr => ∃ k : Nat, k ≤ n2 ∧ i = .int .i64 (k : Int) ∧ Hid (Below w5.heap.size w5 wr)) (fun i _ => n2 - (intOf i).toNat)
    case atStart => exact ⟨0, Nat.zero_le _, by go_num, Below.refl _ _⟩
    case round =>
      obtain ⟨k, hk, rfl, hb⟩ := hrel
      have c0 : (0 : Int) ≤ (k : Int) := Int.natCast_nonneg _
      have c9 : (0 : Int) ≤ (n1 : Int) := Int.natCast_nonneg _
      by_cases hlt : k < n2
      · obtain ⟨y, hy⟩ := get_some HL.out.2.1 hlt
        have hN : N[n1 + k]? = some (Tok.shift (n + 1) y) := by
          rw [HN.out, List.getElem?_append_right (by rw [HL.out.1]; omega), HL.out.1, Nat.add_sub_cancel_left, List.getElem?_map, hy]
          rfl
        have hyp := Hpl.out y (List.mem_iff_getElem?.2 ⟨k, hy⟩)
        obtain ⟨b, off, x, rfl, hbB, hxl, ⟨rfl, _⟩, hx⟩ := ((P5.out.2.below hb.out (Nat.le_refl _)).read (by omega)).at_ hy
        obtain ⟨b', off', x', hs', hbB', hxl', ⟨rfl, _⟩, hx'⟩ := ((P5.out.1.below hb.out (Nat.le_refl _)).read (by omega)).at_ hN
        injection hs' with hs'
        injection hs' with q1 q2
        subst q1 q2
        have h3' := hx 3 _ rfl
        have g3' := hx' 3 (.int .i64 (y.place + ((n + 1 : Nat) : Int))) rfl
        obtain ⟨pl, hpl⟩ : ∃ pl, y.place = pl := ⟨_, rfl⟩
        rw [hpl] at h3' g3' hyp
        simp only [Nat.zero_add] at g3'
        have e9 : ((pl + ((n + 1 : Nat) : Int)) != ((n : Int) + 1 + pl)) = false := by rw [bne_eq_false_iff_eq]; omega
        have Hb := Lib.hid hb.out
        clear hx hx' hy hN hxl hxl' hpl
        go_wp2_with fail
        have sw1 : IntKind.i64.wrap ((n1 : Int) + (k : Int)) = (n1 : Int) + (k : Int) := IntWalk.i64_in _ (by omega)
        have sw2 : IntKind.i64.wrap ((n : Int) + 1) = (n : Int) + 1 := IntWalk.i64_in _ (by omega)
        have sw3 : IntKind.i64.wrap ((n : Int) + 1 + pl) = (n : Int) + 1 + pl := IntWalk.i64_in _ (by omega)
        have sw4 : (0 : Int) ≤ (n1 : Int) + (k : Int) := by omega
        have sw5 : ((n1 : Int) + (k : Int)).toNat = n1 + k := by omega
        have sw6 : (n1 : Int) + (k : Int) < (n1 : Int) + (n2 : Int) := by omega
        go_quiet (fail)
        clear sw1 sw2 sw3 sw5
        go_wp2_with fail
        go_roundw
        case rel => exact ⟨k + 1, by omega, by go_num, below_drewN Hb.out _⟩
        case measure => simp [intOf]; omega
      · have hdec : decide (k < n2) = false := by simp; omega
        have hdec2 : decide ((k : Int) < (n2 : Int)) = false := by simp; omega
        go_wp2_with fail
        go_ret
        exact ⟨rfl, B5.out.trans (hb.out.mono B5.out.size)⟩
end Go.Proofs.YtjjppnfdnjdhlaaDoor
