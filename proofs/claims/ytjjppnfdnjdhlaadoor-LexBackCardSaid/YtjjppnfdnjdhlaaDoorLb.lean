/- The law's walk: 'topiarylaw07.LexBack' returns true whatever the tokens and the text; the variables hold what the texts lay. -/
import Derived.Test.YtjjppnfdnjdhlaaDoorSame
namespace Go.Proofs.YtjjppnfdnjdhlaaDoor
open Go.RowKit

theorem tok_len {r : List Nat} (hr : Bytes r) {k n : Nat} {s : List Nat} {v : Int} (h : tokR r = (some (k, s, v), n)) : s.length ≤ r.length := by
  cases r with
  | nil => cases h
  | cons c t =>
    by_cases h34 : c = 34
    · subst h34
      rw [tokR_quote] at h
      have ht : Bytes t := fun x hx => hr x (List.mem_cons_of_mem _ hx)
      cases hq : qR t with
      | mk a m =>
        rw [hq] at h
        cases a with
        | none => cases h
        | some s' =>
          cases h
          obtain ⟨h1, h2, h3, p, h4, h5⟩ := qR_bound t.length t (Nat.le_refl _) ht _ _ hq
          have h6 := quote_len s
          have h7 := congrArg List.length h4
          rw [List.length_take, List.length_append, h5] at h7
          rw [List.length_cons]
          omega
    · rw [tokR_step h34] at h
      exact step_len h
theorem run_len {r : List Nat} {i : Nat} {T : List Tok} {r' : List Nat} {i' : Nat} (h : Run r i T r' i') (hr : Bytes r) : ∀ t ∈ T, t.text.length ≤ r.length := by
  induction h with
  | done r i => exact fun t h => by simp at h
  | blank hb h ih =>
    intro t ht
    have := ih (fun x hx => hr x (List.mem_cons_of_mem _ hx)) t ht
    rw [List.length_cons]
    omega
  | @tok r i k s v n T r' i' hnb ht h ih =>
    intro t hx
    rcases List.mem_cons.1 hx with rfl | hx
    · exact tok_len hr ht
    · have := ih (bytes_drop hr n) t hx
      rw [List.length_drop] at this
      omega
theorem scan_text_len (l : List Nat) (hl : Bytes l) : ∀ t ∈ (scanN l).1, t.text.length ≤ 281474976710656 := by
  by_cases h4 : l.length ≤ 4096
  · rcases scan_cases hl h4 with ⟨T, i', hT, e⟩ | ⟨T, r', i', n, hT, hs, e⟩
    · rw [e]
      intro t ht
      have := run_len hT hl t ht
      omega
    · rw [e]; exact fun t h => by simp at h
  · have e : scanN l = ([], 0, 3) := by unfold scanN; rw [if_pos (by omega)]
    rw [e]; exact fun t h => by simp at h
theorem alike_lam (l m : List Tok) : eqBy (fun a c => decide (a.kind = c.kind) && (decide (a.text = c.text) && decide (a.num = c.num))) l m = eqBy (alikeP false) l m := by
  congr 1
  funext a b
  simp [alikeP]
theorem SlR.all {α : Type} {w : World} {B size : Nat} {R : List Value → α → Prop} {v : Value} {l : List α} (h : SlR w B size R v l) : ∀ t ∈ l, ∃ x, R x t := by
  intro t ht
  obtain ⟨i, hi⟩ := List.mem_iff_getElem?.1 ht
  obtain ⟨a, c, rfl, _, _, h3⟩ := h
  obtain ⟨b, off, _, _, hc⟩ := h3 (by have := (List.getElem?_eq_some_iff.1 hi).1; omega)
  obtain ⟨x, _, hx, _⟩ := hc i t hi
  exact ⟨x, hx⟩
theorem ok_fit {t : Tok} (h : t.ok) : TokFit t := by
  obtain ⟨h1, _, _, h4, _⟩ := h
  simp [Lit.wf, IntKind.min, IntKind.max, IntKind.signed, IntKind.bits] at h4
  exact ⟨h1, h4⟩
theorem join_cases (l : List Tok) : (joinN l).2 = 0 ∨ (joinN l = ([], 3)) ∨ (joinN l = ([], 2)) := by
  unfold joinN
  split
  · split
    · exact Or.inr (Or.inl rfl)
    · exact Or.inl rfl
  · exact Or.inr (Or.inr rfl)
theorem join_may {l : List Tok} (h : l.all mayN = true) : (joinN l).2 = 0 ∨ joinN l = ([], 3) := by
  unfold joinN
  rw [if_pos h]
  split
  · exact Or.inr rfl
  · exact Or.inl rfl

set_option maxRecDepth 100000 in
set_option maxHeartbeats 8000000 in
theorem back_walk (s : ByteArray) (w : World) {l : List Tok} {v : Value} (hs : SlR w w.heap.size 4 Tok.Is v l) (hfit : l.length * 40 ≤ 140737488355328) (hbig : ∀ t ∈ l, t.text.length ≤ 281474976710656) (hss : s.size ≤ 281474976710656) (hm : Marks w) (hp : Pow w) :
    Calls Tryd.prog 5 #[v, .string s] w fun e w' => e = .returned (.bool true) ∧ Below w.heap.size w w' := by
  have AW := Lib.hid (awake_any w hm hp)
  have hsm : s.size ≤ maxLen := by unfold maxLen; omega
  have SC : Hid (∀ (x : ByteArray) (W : World), x.size ≤ maxLen → Below w.heap.size w W → Calls Tryd.prog 9 #[.string x] W (ScanIs W (scanN (bs x)))) := Lib.hid (fun x W hx hW => scan_any x hx W (hm.below hW))
  have JN : Hid (∀ (v' : Value) (l' : List Tok) (W : World), Below w.heap.size w W → SlR W W.heap.size 4 Tok.Is v' l' → (∀ t ∈ l', t.text.length ≤ 281474976710656) → Calls Tryd.prog 12 #[v'] W fun e w' => e = .returned (.tuple #[.string (txt (joinN l').1), .int .i64 ((joinN l').2 : Int)]) ∧ Below W.heap.size W w') := Lib.hid (fun v' l' W hW h hb => join_any W W h (Below.refl _ _) hb (hm.below hW) (hp.below hW))
  have hfitl : ∀ t ∈ l, TokFit t := fun t ht => by obtain ⟨x, hx⟩ := hs.all t ht; exact ok_fit hx.2
  have Hs := Lib.hid hs
  have Hbig := Lib.hid hbig
  have Hsm := Lib.hid hsm
  obtain ⟨a, c, rfl⟩ : ∃ a c, v = .slice a l.length c := by obtain ⟨a, c, h, _⟩ := hs.form; exact ⟨a, c, h⟩
  obtain ⟨n, hlen⟩ : ∃ n, l.length = n := ⟨_, rfl⟩
  rw [hlen] at Hs ⊢
  -- the tokens
  have hj := join_cases l
  have hbl := back_law hfitl
  obtain ⟨J, hJ⟩ : ∃ J, joinN l = J := ⟨_, rfl⟩
  rw [hJ] at hj hbl
  have JA : Hid (∀ W, Below w.heap.size w W → Calls Tryd.prog 12 #[.slice a n c] W fun e w' => e = .returned (.tuple #[.string (txt J.1), .int .i64 (J.2 : Int)]) ∧ Below W.heap.size W w') := Lib.hid (fun W hW => hJ ▸ JN.out _ l W hW ((Hs.out.below hW).more hW.size) hbig)
  obtain ⟨jt, je⟩ := J
  -- the text
  have hbk := scan_back (bs_bytes s)
  have htl := scan_text_len (bs s) (bs_bytes s)
  obtain ⟨M, hM⟩ : ∃ M, scanN (bs s) = M := ⟨_, rfl⟩
  have SM : Hid (∀ W, Below w.heap.size w W → Calls Tryd.prog 9 #[.string s] W (ScanIs W M)) := Lib.hid (fun W hW => hM ▸ SC.out s W hsm hW)
  rw [hM] at hbk htl
  obtain ⟨M, at_, er⟩ := M
  dsimp only at hbk htl hj hbl
  have tok1 : True := trivial
  have tok2 : True := trivial
  have tok3 : True := trivial
  have tok4 : True := trivial
  have tok5 : True := trivial
  have tok6 : True := trivial
  have tok7 : True := trivial
  clear hs hfit hbig hss hm hp hfitl hlen hJ hM hsm
  by_cases hje : je = 0
  · subst hje
    obtain ⟨q1, q2, T, q3, q4⟩ := hbl rfl
    rw [alike_lam] at q4
    have E3 := Lib.hid q4
    have ST : Hid (∀ W, Below w.heap.size w W → Calls Tryd.prog 9 #[.string (txt jt)] W (ScanIs W (T, 0, 0))) := Lib.hid (fun W hW => by
      have := SC.out (txt jt) W (by rw [txt_size]; unfold maxLen; omega) hW
      rw [bs_txt q1, q3] at this
      exact this)
    clear hj q1 q2 q3 q4
    by_cases her : er = 0
    · subst her
      obtain ⟨hmay, hfm⟩ := hbk.1 rfl
      have hg := join_may hmay
      have hbm := back_law hfm
      obtain ⟨G, hG⟩ : ∃ G, joinN M = G := ⟨_, rfl⟩
      rw [hG] at hg hbm
      have JM : Hid (∀ (v' : Value) W, Below w.heap.size w W → SlR W W.heap.size 4 Tok.Is v' M → Calls Tryd.prog 12 #[v'] W fun e w' => e = .returned (.tuple #[.string (txt G.1), .int .i64 (G.2 : Int)]) ∧ Below W.heap.size W w') := Lib.hid (fun v' W hW h => hG ▸ JN.out v' M W hW h htl)
      obtain ⟨gt, ge⟩ := G
      dsimp only at hg hbm
      by_cases hge : ge = 0
      · subst hge
        obtain ⟨u1, u2, U, u3, u4⟩ := hbm rfl
        rw [alike_lam] at u4
        have E7 := Lib.hid u4
        have SU : Hid (∀ W, Below w.heap.size w W → Calls Tryd.prog 9 #[.string (txt gt)] W (ScanIs W (U, 0, 0))) := Lib.hid (fun W hW => by
          have := SC.out (txt gt) W (by rw [txt_size]; unfold maxLen; omega) hW
          rw [bs_txt u1, u3] at this
          exact this)
        clear hg hbk htl hG hfm hmay u1 u2 u3 u4 
        go_enter Tryd.func5, Tryd.ntmps5
        go_wp2_with (first
    | (go_at_call 14
       refine AW.out.mono ?_
       rintro e w0 ⟨rfl, b0⟩
       have B0 := Lib.hid b0
       clear b0)
    | (go_at_call 12
       have _t := tok1
       refine (JA.out _ B0.out).mono ?_
       rintro e w1 ⟨rfl, b1⟩
       have B1 := Lib.hid (B0.out.trans (b1.mono B0.out.size))
       have Z1 := B1.out.size
       clear b1 tok1 _t)
    | (go_at_call 9
       have _t := tok2
       refine (ST.out _ B1.out).mono ?_
       rintro e w2 ⟨a2, n2, c2, rfl, o2, b2⟩
       have O2 := Lib.hid o2
       have B2 := Lib.hid (B1.out.trans (b2.mono B1.out.size))
       skip
       clear o2 b2 tok2 _t)
    | (go_at_call 15
       have _t := tok3
       refine (same_any _ w2 ((Hs.out.below B2.out).more B2.out.size) (O2.out.read (by omega)) (Below.refl _ _)).mono ?_
       rw [E3.out]
       rintro e w3 ⟨rfl, b3⟩
       have B3 := Lib.hid (B2.out.trans (b3.mono B2.out.size))
       clear b3 tok3 _t)
    | (go_at_call 9
       have _t := tok4
       refine (SM.out _ B3.out).mono ?_
       rintro e w4 ⟨a4, n4, c4, rfl, o4, b4⟩
       have O4 := Lib.hid o4
       have B4 := Lib.hid (B3.out.trans (b4.mono B3.out.size))
       skip
       clear o4 b4 tok4 _t)
    | (go_at_call 12
       have _t := tok5
       refine (JM.out _ _ B4.out (O4.out.read (by omega))).mono ?_
       rintro e w5 ⟨rfl, b5⟩
       have B5 := Lib.hid (B4.out.trans (b5.mono B4.out.size))
       have O5 := Lib.hid (O4.out.below b5 (Nat.le_refl _))
       clear b5 tok5 _t)
    | (go_at_call 9
       have _t := tok6
       refine (SU.out _ B5.out).mono ?_
       rintro e w6 ⟨a6, n6, c6, rfl, o6, b6⟩
       have O6 := Lib.hid o6
       have B6 := Lib.hid (B5.out.trans (b6.mono B5.out.size))
       have K6 := Lib.hid (O5.out.below b6 (Nat.le_refl _))
       clear o6 b6 tok6 _t)
    | (go_at_call 15
       have _t := tok7
       refine (same_any _ w6 (K6.out.read (by omega)) (O6.out.read (by omega)) (Below.refl _ _)).mono ?_
       rw [E7.out]
       rintro e w7 ⟨rfl, b7⟩
       have B7 := Lib.hid (B6.out.trans (b7.mono B6.out.size))
       clear b7 tok7 _t))
        go_ret
        exact ⟨rfl, B7.out⟩
      · have hg3 : (gt, ge) = (([], 3) : List Nat × Nat) := by
          rcases hg with h | h
          · exact absurd h hge
          · exact h
        injection hg3 with hg1 hg2
        subst hg1 hg2
        have n0 := nil_facts
        have n1 : (txt []).toList.isEmpty = true := by rw [n0]; rfl
        clear hg hbk htl hG hfm hmay hbm hge
        go_enter Tryd.func5, Tryd.ntmps5
        go_wp2_with (first
    | (go_at_call 14
       refine AW.out.mono ?_
       rintro e w0 ⟨rfl, b0⟩
       have B0 := Lib.hid b0
       clear b0)
    | (go_at_call 12
       have _t := tok1
       refine (JA.out _ B0.out).mono ?_
       rintro e w1 ⟨rfl, b1⟩
       have B1 := Lib.hid (B0.out.trans (b1.mono B0.out.size))
       have Z1 := B1.out.size
       clear b1 tok1 _t)
    | (go_at_call 9
       have _t := tok2
       refine (ST.out _ B1.out).mono ?_
       rintro e w2 ⟨a2, n2, c2, rfl, o2, b2⟩
       have O2 := Lib.hid o2
       have B2 := Lib.hid (B1.out.trans (b2.mono B1.out.size))
       skip
       clear o2 b2 tok2 _t)
    | (go_at_call 15
       have _t := tok3
       refine (same_any _ w2 ((Hs.out.below B2.out).more B2.out.size) (O2.out.read (by omega)) (Below.refl _ _)).mono ?_
       rw [E3.out]
       rintro e w3 ⟨rfl, b3⟩
       have B3 := Lib.hid (B2.out.trans (b3.mono B2.out.size))
       clear b3 tok3 _t)
    | (go_at_call 9
       have _t := tok4
       refine (SM.out _ B3.out).mono ?_
       rintro e w4 ⟨a4, n4, c4, rfl, o4, b4⟩
       have O4 := Lib.hid o4
       have B4 := Lib.hid (B3.out.trans (b4.mono B3.out.size))
       skip
       clear o4 b4 tok4 _t)
    | (go_at_call 12
       have _t := tok5
       refine (JM.out _ _ B4.out (O4.out.read (by omega))).mono ?_
       rintro e w5 ⟨rfl, b5⟩
       have B5 := Lib.hid (B4.out.trans (b5.mono B4.out.size))
       have O5 := Lib.hid (O4.out.below b5 (Nat.le_refl _))
       clear b5 tok5 _t))
        go_ret
        exact ⟨rfl, B5.out⟩
    · obtain ⟨hM0, her2⟩ := hbk.2 her
      subst hM0
      rcases her2 with rfl | rfl
      · clear hbk htl her
        go_enter Tryd.func5, Tryd.ntmps5
        go_wp2_with (first
    | (go_at_call 14
       refine AW.out.mono ?_
       rintro e w0 ⟨rfl, b0⟩
       have B0 := Lib.hid b0
       clear b0)
    | (go_at_call 12
       have _t := tok1
       refine (JA.out _ B0.out).mono ?_
       rintro e w1 ⟨rfl, b1⟩
       have B1 := Lib.hid (B0.out.trans (b1.mono B0.out.size))
       have Z1 := B1.out.size
       clear b1 tok1 _t)
    | (go_at_call 9
       have _t := tok2
       refine (ST.out _ B1.out).mono ?_
       rintro e w2 ⟨a2, n2, c2, rfl, o2, b2⟩
       have O2 := Lib.hid o2
       have B2 := Lib.hid (B1.out.trans (b2.mono B1.out.size))
       skip
       clear o2 b2 tok2 _t)
    | (go_at_call 15
       have _t := tok3
       refine (same_any _ w2 ((Hs.out.below B2.out).more B2.out.size) (O2.out.read (by omega)) (Below.refl _ _)).mono ?_
       rw [E3.out]
       rintro e w3 ⟨rfl, b3⟩
       have B3 := Lib.hid (B2.out.trans (b3.mono B2.out.size))
       clear b3 tok3 _t)
    | (go_at_call 9
       have _t := tok4
       refine (SM.out _ B3.out).mono ?_
       rintro e w4 ⟨a4, n4, c4, rfl, o4, b4⟩
       have hn4 : n4 = 0 := by obtain ⟨_, _, h⟩ := o4.form; injection h
       subst hn4
       have O4 := Lib.hid o4
       have B4 := Lib.hid (B3.out.trans (b4.mono B3.out.size))
       skip
       clear o4 b4 tok4 _t))
        go_ret
        exact ⟨rfl, B4.out⟩
      · clear hbk htl her
        go_enter Tryd.func5, Tryd.ntmps5
        go_wp2_with (first
    | (go_at_call 14
       refine AW.out.mono ?_
       rintro e w0 ⟨rfl, b0⟩
       have B0 := Lib.hid b0
       clear b0)
    | (go_at_call 12
       have _t := tok1
       refine (JA.out _ B0.out).mono ?_
       rintro e w1 ⟨rfl, b1⟩
       have B1 := Lib.hid (B0.out.trans (b1.mono B0.out.size))
       have Z1 := B1.out.size
       clear b1 tok1 _t)
    | (go_at_call 9
       have _t := tok2
       refine (ST.out _ B1.out).mono ?_
       rintro e w2 ⟨a2, n2, c2, rfl, o2, b2⟩
       have O2 := Lib.hid o2
       have B2 := Lib.hid (B1.out.trans (b2.mono B1.out.size))
       skip
       clear o2 b2 tok2 _t)
    | (go_at_call 15
       have _t := tok3
       refine (same_any _ w2 ((Hs.out.below B2.out).more B2.out.size) (O2.out.read (by omega)) (Below.refl _ _)).mono ?_
       rw [E3.out]
       rintro e w3 ⟨rfl, b3⟩
       have B3 := Lib.hid (B2.out.trans (b3.mono B2.out.size))
       clear b3 tok3 _t)
    | (go_at_call 9
       have _t := tok4
       refine (SM.out _ B3.out).mono ?_
       rintro e w4 ⟨a4, n4, c4, rfl, o4, b4⟩
       have hn4 : n4 = 0 := by obtain ⟨_, _, h⟩ := o4.form; injection h
       subst hn4
       have O4 := Lib.hid o4
       have B4 := Lib.hid (B3.out.trans (b4.mono B3.out.size))
       skip
       clear o4 b4 tok4 _t))
        go_ret
        exact ⟨rfl, B4.out⟩
  · have hje1 : ((je : Int) == 0) = false := by simp; omega
    clear hj hbl hje
    by_cases her : er = 0
    · subst her
      obtain ⟨hmay, hfm⟩ := hbk.1 rfl
      have hg := join_may hmay
      have hbm := back_law hfm
      obtain ⟨G, hG⟩ : ∃ G, joinN M = G := ⟨_, rfl⟩
      rw [hG] at hg hbm
      have JM : Hid (∀ (v' : Value) W, Below w.heap.size w W → SlR W W.heap.size 4 Tok.Is v' M → Calls Tryd.prog 12 #[v'] W fun e w' => e = .returned (.tuple #[.string (txt G.1), .int .i64 (G.2 : Int)]) ∧ Below W.heap.size W w') := Lib.hid (fun v' W hW h => hG ▸ JN.out v' M W hW h htl)
      obtain ⟨gt, ge⟩ := G
      dsimp only at hg hbm
      by_cases hge : ge = 0
      · subst hge
        obtain ⟨u1, u2, U, u3, u4⟩ := hbm rfl
        rw [alike_lam] at u4
        have E7 := Lib.hid u4
        have SU : Hid (∀ W, Below w.heap.size w W → Calls Tryd.prog 9 #[.string (txt gt)] W (ScanIs W (U, 0, 0))) := Lib.hid (fun W hW => by
          have := SC.out (txt gt) W (by rw [txt_size]; unfold maxLen; omega) hW
          rw [bs_txt u1, u3] at this
          exact this)
        clear hg hbk htl hG hfm hmay u1 u2 u3 u4 
        go_enter Tryd.func5, Tryd.ntmps5
        go_wp2_with (first
    | (go_at_call 14
       refine AW.out.mono ?_
       rintro e w0 ⟨rfl, b0⟩
       have B0 := Lib.hid b0
       clear b0)
    | (go_at_call 12
       have _t := tok1
       refine (JA.out _ B0.out).mono ?_
       rintro e w1 ⟨rfl, b1⟩
       have B1 := Lib.hid (B0.out.trans (b1.mono B0.out.size))
       have Z1 := B1.out.size
       clear b1 tok1 _t)
    | (go_at_call 9
       have _t := tok4
       refine (SM.out _ B1.out).mono ?_
       rintro e w4 ⟨a4, n4, c4, rfl, o4, b4⟩
       have O4 := Lib.hid o4
       have B4 := Lib.hid (B1.out.trans (b4.mono B1.out.size))
       skip
       clear o4 b4 tok4 _t)
    | (go_at_call 12
       have _t := tok5
       refine (JM.out _ _ B4.out (O4.out.read (by omega))).mono ?_
       rintro e w5 ⟨rfl, b5⟩
       have B5 := Lib.hid (B4.out.trans (b5.mono B4.out.size))
       have O5 := Lib.hid (O4.out.below b5 (Nat.le_refl _))
       clear b5 tok5 _t)
    | (go_at_call 9
       have _t := tok6
       refine (SU.out _ B5.out).mono ?_
       rintro e w6 ⟨a6, n6, c6, rfl, o6, b6⟩
       have O6 := Lib.hid o6
       have B6 := Lib.hid (B5.out.trans (b6.mono B5.out.size))
       have K6 := Lib.hid (O5.out.below b6 (Nat.le_refl _))
       clear o6 b6 tok6 _t)
    | (go_at_call 15
       have _t := tok7
       refine (same_any _ w6 (K6.out.read (by omega)) (O6.out.read (by omega)) (Below.refl _ _)).mono ?_
       rw [E7.out]
       rintro e w7 ⟨rfl, b7⟩
       have B7 := Lib.hid (B6.out.trans (b7.mono B6.out.size))
       clear b7 tok7 _t))
        go_ret
        exact ⟨rfl, B7.out⟩
      · have hg3 : (gt, ge) = (([], 3) : List Nat × Nat) := by
          rcases hg with h | h
          · exact absurd h hge
          · exact h
        injection hg3 with hg1 hg2
        subst hg1 hg2
        have n0 := nil_facts
        have n1 : (txt []).toList.isEmpty = true := by rw [n0]; rfl
        clear hg hbk htl hG hfm hmay hbm hge
        go_enter Tryd.func5, Tryd.ntmps5
        go_wp2_with (first
    | (go_at_call 14
       refine AW.out.mono ?_
       rintro e w0 ⟨rfl, b0⟩
       have B0 := Lib.hid b0
       clear b0)
    | (go_at_call 12
       have _t := tok1
       refine (JA.out _ B0.out).mono ?_
       rintro e w1 ⟨rfl, b1⟩
       have B1 := Lib.hid (B0.out.trans (b1.mono B0.out.size))
       have Z1 := B1.out.size
       clear b1 tok1 _t)
    | (go_at_call 9
       have _t := tok4
       refine (SM.out _ B1.out).mono ?_
       rintro e w4 ⟨a4, n4, c4, rfl, o4, b4⟩
       have O4 := Lib.hid o4
       have B4 := Lib.hid (B1.out.trans (b4.mono B1.out.size))
       skip
       clear o4 b4 tok4 _t)
    | (go_at_call 12
       have _t := tok5
       refine (JM.out _ _ B4.out (O4.out.read (by omega))).mono ?_
       rintro e w5 ⟨rfl, b5⟩
       have B5 := Lib.hid (B4.out.trans (b5.mono B4.out.size))
       have O5 := Lib.hid (O4.out.below b5 (Nat.le_refl _))
       clear b5 tok5 _t))
        go_ret
        exact ⟨rfl, B5.out⟩
    · obtain ⟨hM0, her2⟩ := hbk.2 her
      subst hM0
      rcases her2 with rfl | rfl
      · clear hbk htl her
        go_enter Tryd.func5, Tryd.ntmps5
        go_wp2_with (first
    | (go_at_call 14
       refine AW.out.mono ?_
       rintro e w0 ⟨rfl, b0⟩
       have B0 := Lib.hid b0
       clear b0)
    | (go_at_call 12
       have _t := tok1
       refine (JA.out _ B0.out).mono ?_
       rintro e w1 ⟨rfl, b1⟩
       have B1 := Lib.hid (B0.out.trans (b1.mono B0.out.size))
       have Z1 := B1.out.size
       clear b1 tok1 _t)
    | (go_at_call 9
       have _t := tok4
       refine (SM.out _ B1.out).mono ?_
       rintro e w4 ⟨a4, n4, c4, rfl, o4, b4⟩
       have hn4 : n4 = 0 := by obtain ⟨_, _, h⟩ := o4.form; injection h
       subst hn4
       have O4 := Lib.hid o4
       have B4 := Lib.hid (B1.out.trans (b4.mono B1.out.size))
       skip
       clear o4 b4 tok4 _t))
        go_ret
        exact ⟨rfl, B4.out⟩
      · clear hbk htl her
        go_enter Tryd.func5, Tryd.ntmps5
        go_wp2_with (first
    | (go_at_call 14
       refine AW.out.mono ?_
       rintro e w0 ⟨rfl, b0⟩
       have B0 := Lib.hid b0
       clear b0)
    | (go_at_call 12
       have _t := tok1
       refine (JA.out _ B0.out).mono ?_
       rintro e w1 ⟨rfl, b1⟩
       have B1 := Lib.hid (B0.out.trans (b1.mono B0.out.size))
       have Z1 := B1.out.size
       clear b1 tok1 _t)
    | (go_at_call 9
       have _t := tok4
       refine (SM.out _ B1.out).mono ?_
       rintro e w4 ⟨a4, n4, c4, rfl, o4, b4⟩
       have hn4 : n4 = 0 := by obtain ⟨_, _, h⟩ := o4.form; injection h
       subst hn4
       have O4 := Lib.hid o4
       have B4 := Lib.hid (B1.out.trans (b4.mono B1.out.size))
       skip
       clear o4 b4 tok4 _t))
        go_ret
        exact ⟨rfl, B4.out⟩
end Go.Proofs.YtjjppnfdnjdhlaaDoor
