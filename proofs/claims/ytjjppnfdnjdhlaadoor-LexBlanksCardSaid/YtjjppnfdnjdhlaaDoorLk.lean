/- The law's walk: 'topiarylaw07.LexBlanks' returns true whatever the text and the counts; the variables hold what the texts lay. -/
import Derived.Test.YtjjppnfdnjdhlaaDoorSame
import Derived.Test.YtjjppnfdnjdhlaaDoorLs
import Derived.Test.YtjjppnfdnjdhlaaDoorBlk
import Derived.IntWalk
namespace Go.Proofs.YtjjppnfdnjdhlaaDoor
open Go.RowKit

/-- how many blanks ahead of the token k -/
def cntN (more : List Int) (k : Nat) : Nat := match more[k]? with
  | some v => (v.tmod 8).toNat
  | none => 0
theorem tmod_in (v : Int) : -7 ≤ v.tmod 8 ∧ v.tmod 8 ≤ 7 := by
  have h1 := Int.lt_tmod_of_pos v (show (0 : Int) < 8 by omega)
  have h2 := Int.tmod_lt_of_pos v (show (0 : Int) < 8 by omega)
  omega
theorem cnt_le (more : List Int) (k : Nat) : cntN more k ≤ 7 := by
  unfold cntN
  split
  · have := tmod_in; rename_i v _; have := tmod_in v; omega
  · omega
/-- the places of a text's tokens: within it, and going up -/
theorem scan_up {l : List Nat} (hl : Bytes l) : ∀ k t, (scanN l).1[k]? = some t → ∃ p : Nat, t.place = (p : Int) ∧ p ≤ l.length ∧ ∀ t', (scanN l).1[k + 1]? = some t' → ∃ p' : Nat, t'.place = (p' : Int) ∧ p ≤ p' := by
  by_cases h4 : l.length ≤ 4096
  · rcases scan_cases hl h4 with ⟨T, i', hT, e⟩ | ⟨T, r', i', n, hT, hs, e⟩
    · rw [e]
      intro k t hk
      obtain ⟨p, h1, h2, h3, h4⟩ := run_places hT hl k t hk
      exact ⟨p, h1, by omega, h4⟩
    · rw [e]; exact fun k t h => by simp at h
  · have e : scanN l = ([], 0, 3) := by unfold scanN; rw [if_pos (by omega)]
    rw [e]; exact fun k t h => by simp at h
theorem scan_len0 {l : List Nat} (h : (scanN l).2.2 = 0) : l.length ≤ 4096 := by
  rcases Nat.lt_or_ge 4096 l.length with h4 | h4
  · rw [show scanN l = ([], 0, 3) by unfold scanN; rw [if_pos h4]] at h
    exact absurd h (by simp)
  · exact h4
theorem ins_cons {l : List Nat} {cnt : Nat → Nat} {a k : Nat} {T : List Tok} {t : Tok} {p : Nat} (h : T[k]? = some t) (hp : t.place = (p : Int)) : insB l cnt a (T.drop k) k = (l.take p).drop a ++ (blkN (cnt k) ++ insB l cnt p (T.drop (k + 1)) (k + 1)) := by
  have hk := (List.getElem?_eq_some_iff.1 h).1
  rw [List.drop_eq_getElem_cons hk, (List.getElem?_eq_some_iff.1 h).2]
  show (l.take t.place.toNat).drop a ++ (blkN (cnt k) ++ insB l cnt t.place.toNat (T.drop (k + 1)) (k + 1)) = _
  rw [hp, Int.toNat_natCast]
theorem ins_nil {l : List Nat} {cnt : Nat → Nat} {a k : Nat} {T : List Tok} (h : T.length ≤ k) : insB l cnt a (T.drop k) k = l.drop a ++ blkN (cnt k) := by
  rw [List.drop_of_length_le h]
  rfl
/-- the text that is made, so far -/
def Made (l : List Nat) (cnt : Nat → Nat) (T : List Tok) (F : List Nat) (k a : Nat) (o : List Nat) : Prop :=
  (k ≤ T.length → o ++ insB l cnt a (T.drop k) k = F) ∧ (T.length < k → o = F) ∧ (∀ t, T[k]? = some t → ∃ p : Nat, t.place = (p : Int) ∧ a ≤ p ∧ p ≤ l.length)
theorem Made.start (l : List Nat) (cnt : Nat → Nat) (T : List Tok) (hup : ∀ k t, T[k]? = some t → ∃ p : Nat, t.place = (p : Int) ∧ p ≤ l.length ∧ ∀ t', T[k + 1]? = some t' → ∃ p' : Nat, t'.place = (p' : Int) ∧ p ≤ p') : Made l cnt T (insB l cnt 0 T 0) 0 0 [] :=
  ⟨fun _ => by rw [List.drop_zero]; rfl, fun h => by omega, fun t ht => by obtain ⟨p, h1, h2, _⟩ := hup 0 t ht; exact ⟨p, h1, Nat.zero_le _, h2⟩⟩
theorem Made.step {l : List Nat} {cnt : Nat → Nat} {T : List Tok} {F : List Nat} {k a : Nat} {o : List Nat} (h : Made l cnt T F k a o) {t : Tok} {p : Nat} (ht : T[k]? = some t) (hp : t.place = (p : Int)) (hup : ∀ k t, T[k]? = some t → ∃ p : Nat, t.place = (p : Int) ∧ p ≤ l.length ∧ ∀ t', T[k + 1]? = some t' → ∃ p' : Nat, t'.place = (p' : Int) ∧ p ≤ p') : Made l cnt T F (k + 1) p ((o ++ (l.take p).drop a) ++ blkN (cnt k)) := by
  have hk := (List.getElem?_eq_some_iff.1 ht).1
  refine ⟨fun _ => ?_, fun h2 => by omega, fun t' ht' => ?_⟩
  · rw [← h.1 (by omega), ins_cons ht hp]
    simp
  · obtain ⟨q, h1, h2, h3⟩ := hup k t ht
    obtain ⟨p', h4, h5⟩ := h3 t' ht'
    obtain ⟨p2, h6, h7, _⟩ := hup (k + 1) t' ht'
    exact ⟨p', h4, by omega, by omega⟩
theorem Made.last {l : List Nat} {cnt : Nat → Nat} {T : List Tok} {F : List Nat} {a : Nat} {o : List Nat} (h : Made l cnt T F T.length a o) : Made l cnt T F (T.length + 1) l.length ((o ++ l.drop a) ++ blkN (cnt T.length)) := by
  refine ⟨fun h2 => by omega, fun _ => ?_, fun t ht => ?_⟩
  · rw [← h.1 (Nat.le_refl _), ins_nil (Nat.le_refl _)]
    simp
  · rw [List.getElem?_eq_none (by omega)] at ht; cases ht

set_option maxRecDepth 100000 in
set_option maxHeartbeats 16000000 in
theorem blanks_walk (s : ByteArray) (w : World) {more : List Int} {v : Value} (hss : s.size ≤ 281474976710656) (hs : SlR w w.heap.size 1 IsInt v more) (hfit : more.length * 8 ≤ 140737488355328) (hm : Marks w) (hp : Pow w) :
    Calls Tryd.prog 7 #[.string s, v] w fun e w' => e = .returned (.bool true) ∧ Below w.heap.size w w' := by
  have AW := Lib.hid (awake_any w hm hp)
  have hsm : s.size ≤ maxLen := by unfold maxLen; omega
  have SC : Hid (∀ (x : ByteArray) (W : World), x.size ≤ maxLen → Below w.heap.size w W → Calls Tryd.prog 9 #[.string x] W (ScanIs W (scanN (bs x)))) := Lib.hid (fun x W hx hW => scan_any x hx W (hm.below hW))
  obtain ⟨n, hn⟩ : ∃ n, s.size = n := ⟨_, rfl⟩
  have hln : (bs s).length = n := by rw [bs_len, hn]
  have hn' : (s.size : Int) = (n : Int) := by rw [hn]
  have hbk := scan_back (bs_bytes s)
  have hup := scan_up (bs_bytes s)
  have hl0 := scan_len0 (l := bs s)
  have hlw := fun h h' => blanks_law (bs_bytes s) (hl0 h) h (cntN more) h'
  have htl := scanN_len (bs s)
  obtain ⟨M, hM⟩ : ∃ M, scanN (bs s) = M := ⟨_, rfl⟩
  have SM : Hid (∀ W, Below w.heap.size w W → Calls Tryd.prog 9 #[.string s] W (ScanIs W M)) := Lib.hid (fun W hW => hM ▸ SC.out s W hsm hW)
  rw [hM] at hbk hup hl0 hlw htl
  rw [hln] at hl0 hup
  obtain ⟨T, at_, er⟩ := M
  dsimp only at hbk hup hl0 hlw htl
  obtain ⟨a, c, rfl⟩ : ∃ a c, v = .slice a more.length c := by obtain ⟨a, c, h, _⟩ := hs.form; exact ⟨a, c, h⟩
  obtain ⟨nm, hnm⟩ : ∃ nm, more.length = nm := ⟨_, rfl⟩
  have Hnm := Lib.hid hnm
  rw [hnm] at hs hfit ⊢
  obtain ⟨NT, hNT⟩ : ∃ NT, T.length = NT := ⟨_, rfl⟩
  rw [hNT] at htl
  have HNT := Lib.hid hNT
  have Hs := Lib.hid hs
  have Hn := Lib.hid (And.intro hn hln)
  have Hup := Lib.hid hup
  clear hm hp hM hsm hln hn hs hup hnm hNT
  by_cases her : er = 0
  rotate_left
  · obtain ⟨h1, h2⟩ := hbk.2 her
    subst h1
    have hz : NT = 0 := by rw [← HNT.out]; rfl
    subst hz
    have e1 : ((er : Int) != 0) = true := by simp; omega
    clear hbk hl0 hlw her h2
    go_enter Tryd.func7, Tryd.ntmps7
    go_wp2_with (first
    | (go_at_call 14
       refine AW.out.mono ?_
       rintro e w0 ⟨rfl, b0⟩
       have B0 := Lib.hid b0
       clear b0)
    | (go_at_call 9
       refine (SM.out _ B0.out).mono ?_
       rintro e w1 ⟨a1, n1, c1, rfl, o1, b1⟩
       have hn1 : n1 = 0 := by obtain ⟨_, _, h⟩ := o1.form; injection h
       subst hn1
       have O1 := Lib.hid o1
       have B1 := Lib.hid (B0.out.trans (b1.mono B0.out.size))
       clear o1 b1))
    go_ret
    exact ⟨rfl, B1.out⟩
  subst her
  have hsmall := hl0 rfl
  have hlaw := hlw rfl
  obtain ⟨F, hF⟩ : ∃ F, insB (bs s) (cntN more) 0 T 0 = F := ⟨_, rfl⟩
  have hst := Made.start (bs s) (cntN more) T (fun k t h => by rw [Hn.out.2]; exact Hup.out k t h)
  rw [hF] at hlaw hst
  have Hlaw := Lib.hid hlaw
  have Hst := Lib.hid hst
  obtain ⟨j, hi, hz, hsz', hby⟩ := info_parts info_u8
  have I := Lib.hid (And.intro hi (And.intro hz (And.intro hsz' hby)))
  clear hbk hl0 hlw hlaw hst hF hi hz hsz' hby
  go_enter Tryd.func7, Tryd.ntmps7
  go_wp2_with (first
    | (go_at_call 14
       refine AW.out.mono ?_
       rintro e w0 ⟨rfl, b0⟩
       have B0 := Lib.hid b0
       clear b0)
    | (go_at_call 9
       refine (SM.out _ B0.out).mono ?_
       rintro e w1 ⟨a1, n1, c1, rfl, o1, b1⟩
       have hn1 : NT = n1 := by obtain ⟨_, _, h⟩ := o1.form; injection h with _ h _; rw [h]; exact HNT.out.symm
       subst hn1
       have O1 := Lib.hid o1
       have B1 := Lib.hid (B0.out.trans (b1.mono B0.out.size))
       clear o1 b1))

  go_loopw [8, 9, 10] (fun out av i wr => ∃ (k aa : Nat) (o : List Nat) (oa : Option Addr) (oc : Nat), k ≤ NT + 1 ∧ i = .int .i64 (k : Int) ∧ av = .int .i64 (aa : Int) ∧ aa ≤ n ∧ o.length ≤ aa + 7 * k ∧ out = .slice oa o.length oc ∧ Hid (Made (bs s) (cntN more) T F k aa o) ∧ Hid (Own1 wr w1.heap.size 5 1 IsByte (.slice oa o.length oc) o ∧ Below w1.heap.size w1 wr)) (fun _ _ i _ => NT + 1 - (intOf i).toNat)
  case atStart => exact ⟨0, 0, [], none, 0, by omega, by go_num, rfl, by omega, by simp, rfl, Hst.out, ⟨[], World.ownsRow_nil _ _ _ _, FlatR.nil_⟩, Below.refl _ _⟩
  case round =>
    obtain ⟨k, aa, o, oa, oc, hk, rfl, rfl, haa, hol, rfl, hmd, hst⟩ := hrel
    have c0 : (0 : Int) ≤ (k : Int) := Int.natCast_nonneg _
    have c1' : (0 : Int) ≤ (aa : Int) := Int.natCast_nonneg _
    have hbz := hst.out.2.size
    obtain ⟨wo, hwo⟩ : ∃ wo, wo = wr := ⟨wr, rfl⟩
    subst hwo
    by_cases hlt : k ≤ NT
    rotate_left
    · have d1 : decide ((k : Int) ≤ (NT : Int)) = false := by simp; omega
      have hoF := hmd.out.2.1 (by rw [HNT.out]; omega)
      subst hoF
      have hcv := run_text_of_row (P := Tryd.prog) 42 9 5 Tryd.underlying42 Tryd.underlying5 Tryd.underlying9 hst.out.1
      by_cases hbig : 4096 < o.length
      · have d2 : decide (4096 < (o.length : Int)) = true := by simp; omega
        go_wp2_with fail
        go_ret
        exact ⟨rfl, B1.out.trans (hst.out.2.mono B1.out.size)⟩
      · have d2 : decide (4096 < (o.length : Int)) = false := by simp; omega
        obtain ⟨U, g1, g2⟩ := Hlaw.out (by omega)
        have hob : Bytes o := by obtain ⟨xs, _, h2⟩ := hst.out.1; exact (byteRow h2).2
        have SU : Hid (∀ W, Below w.heap.size w W → Calls Tryd.prog 9 #[.string (txt o)] W (ScanIs W (U, 0, 0))) := Lib.hid (fun W hW => by
          have := SC.out (txt o) W (by rw [txt_size]; unfold maxLen; omega) hW
          rw [bs_txt hob, g1] at this
          exact this)
        have E7 := Lib.hid g2
        clear g1 g2 hob
        go_wp2_with (first
          | (go_at_call 9
             refine (SU.out _ (B1.out.trans (hst.out.2.mono B1.out.size))).mono ?_
             rintro e w2 ⟨a2, n2, c2, rfl, o2, b2⟩
             have O2 := Lib.hid o2
             have B2 := Lib.hid ((B1.out.trans (hst.out.2.mono B1.out.size)).trans (b2.mono (Nat.le_trans B1.out.size hbz)))
             have K2 := Lib.hid ((O1.out.below hst.out.2 (Nat.le_refl _)).below b2 (Nat.le_refl _))
             clear o2 b2)
          | (go_at_call 15
             refine (same_any _ w2 (K2.out.read (by omega)) (O2.out.read (by omega)) (Below.refl _ _)).mono ?_
             rw [E7.out]
             rintro e w3 ⟨rfl, b3⟩
             have B3 := Lib.hid (B2.out.trans (b3.mono B2.out.size))
             clear b3))
        go_ret
        exact ⟨rfl, B3.out⟩
    have d1 : decide ((k : Int) ≤ (NT : Int)) = true := by simp; omega
    -- where the piece ends
    have hto : ∃ p : Nat, aa ≤ p ∧ p ≤ n ∧ ((k < NT ∧ ∃ t, T[k]? = some t ∧ t.place = (p : Int)) ∨ (k = NT ∧ p = n)) := by
      rcases Nat.lt_or_ge k NT with h | h
      · obtain ⟨t, ht⟩ := get_some HNT.out h
        obtain ⟨p, h1, h2, h3⟩ := hmd.out.2.2 t ht
        rw [Hn.out.2] at h3
        exact ⟨p, h2, h3, Or.inl ⟨h, t, ht, h1⟩⟩
      · exact ⟨n, haa, Nat.le_refl _, Or.inr ⟨by omega, rfl⟩⟩
    obtain ⟨p, hap, hpn, hto⟩ := hto
    have hcle := cnt_le more k
    have hmade : Made (bs s) (cntN more) T F (k + 1) p ((o ++ ((bs s).take p).drop aa) ++ blkN (cntN more k)) := by
      rcases hto with ⟨_, t, ht, htp⟩ | ⟨hkk, rfl⟩
      · exact hmd.out.step ht htp (fun k t h => by rw [Hn.out.2]; exact Hup.out k t h)
      · have h1 := hmd.out
        rw [hkk, ← HNT.out] at h1 ⊢
        have h2 := h1.last
        rw [Hn.out.2] at h2
        rw [List.take_of_length_le (by rw [Hn.out.2]; exact Nat.le_refl _)]
        exact h2
    have Hmade := Lib.hid hmade
    have hex : bs (s.extract aa p) = ((bs s).take p).drop aa := bs_extract s aa p
    have hexl : (s.extract aa p).size = p - aa := by rw [← bs_len, hex, List.length_drop, List.length_take, Hn.out.2]; omega
    have Hex := Lib.hid (And.intro hex hexl)
    obtain ⟨cn, hcn⟩ : ∃ cn, cntN more k = cn := ⟨_, rfl⟩
    rw [hcn] at hcle
    have Hcn := Lib.hid hcn
    have z1 : (s.extract aa p).size ≤ 4096 := by omega
    obtain ⟨o1, ho1⟩ : ∃ o1, o ++ ((bs s).take p).drop aa = o1 := ⟨_, rfl⟩
    have ho1l : o1.length = o.length + (p - aa) := by rw [← ho1, List.length_append, List.length_drop, List.length_take, Hn.out.2]; omega
    have Ho1 := Lib.hid (And.intro ho1 ho1l).1
    have Ho1l := Lib.hid ho1l
    clear hmade hex hexl hmd hcn ho1 ho1l
    have e1 : decide ((p : Int) < (aa : Int)) = false := by simp; omega
    have e2 : decide ((n : Int) < (p : Int)) = false := by simp; omega
    have e3 : decide (p < aa) = false := by simp; omega
    have e4 : decide (n < p) = false := by simp; omega
    have tokA : True := trivial
    rcases hto with ⟨hkl, t, ht, htp⟩ | ⟨hkk, hpe⟩
    · have d2 : decide ((k : Int) < (NT : Int)) = true := by simp; omega
      obtain ⟨b, off, x, rfl, hbB, hxl, ⟨rfl, _⟩, hx⟩ := ((O1.out.below hst.out.2 (Nat.le_refl _)).read (by omega)).at_ ht
      have h3' := hx 3 (.int .i64 t.place) rfl
      rw [htp] at h3'
      clear hx hxl ht htp
      by_cases hmo : k < nm
      · obtain ⟨v, hv⟩ := get_some Hnm.out hmo
        have d3 : decide ((k : Int) < (nm : Int)) = true := by simp; omega
        obtain ⟨b', off', x', rfl, hbB', hxl', ⟨rfl, hvw⟩, hx'⟩ := (Hs.out.below (B1.out.trans (hst.out.2.mono B1.out.size))).at_ hv
        have g0 := hx' 0 _ rfl
        simp only [Nat.mul_one, Nat.add_zero] at g0
        have htm := tmod_in v
        have hce : cn = (v.tmod 8).toNat := by rw [← Hcn.out]; unfold cntN; rw [hv]
        have HV := Lib.hid hv
        clear hx' hxl' hv
        go_wp2_with (first
        | (at_builtin
           have _t := tokA
           go_must (refine wpList_append_text rfl (.tmp 56) (.tmp 60) _ _ rfl w1.heap.size 5 j Tryd.underlying42 Tryd.underlying9 I.out.1 I.out.2.1 I.out.2.2.1 I.out.2.2.2 (.slice oa o.length oc) o rfl (by exact hst.out.1) (s.extract aa p) rfl (by unfold maxLen; omega) (by omega) hbz ?_)
           intro xa xn xc w4 hown b4
           rw [Hex.out.1, Ho1.out] at hown
           obtain ⟨xa', xc', hxv⟩ := hown.form
           injection hxv with q1 q2 q3
           subst q1 q2 q3
           have S4 := Lib.hid (And.intro hown (hst.out.2.trans b4))
           obtain ⟨b2, off2, x2, hs2, _, _, ⟨rfl, _⟩, hx2⟩ := (Hs.out.below (B1.out.trans (S4.out.2.mono B1.out.size))).at_ HV.out
           injection hs2 with hs2
           injection hs2 with r1 r2
           subst r1 r2
           have g0' := hx2 0 _ rfl
           simp only [Nat.mul_one, Nat.add_zero] at g0'
           try rw [hkk] at g0'
           clear hx2
           clear hown b4 tokA _t))
        go_hide hQ
        go_loopw [8, 13] (fun out jv wx => ∃ (q : Nat) (o2 : List Nat) (ya : Option Addr) (yc : Nat), q ≤ cn ∧ jv = .int .i64 (q : Int) ∧ out = .slice ya o2.length yc ∧ o2.length = o.length + (p - aa) + q ∧ Hid (o2 = o1 ++ blkN q) ∧ Hid (Own1 wx w1.heap.size 5 1 IsByte (.slice ya o2.length yc) o2 ∧ Below w1.heap.size w1 wx)) (fun _ jv _ => cn - (intOf jv).toNat)
        case atStart => exact ⟨0, _, _, _, Nat.zero_le _, by go_num, rfl, by rw [Ho1l.out]; omega, by rw [blk_zero, List.append_nil]; exact Lib.hid rfl, S4.out⟩
        case round =>
          obtain ⟨q, o2, ya, yc, hq, rfl, rfl, ho2, ho2e, hst2⟩ := hrel
          have c3 : (0 : Int) ≤ (q : Int) := Int.natCast_nonneg _
          have hbz2 := hst2.out.2.size
          by_cases hlt2 : q < cn
          · have g1 : decide ((q : Int) < (v.tmod 8)) = true := by simp only [decide_eq_true_eq]; omega
            have hbe : ∀ d, d = (if q % 2 = 0 then 32 else 10) → o1 ++ blkN (q + 1) = o2 ++ [d] := fun d hd => by rw [blk_succ, ho2e.out, hd]; simp
            have Hbe := Lib.hid hbe
            clear hbe
            have hpar : (q % 2 = 0 ∧ (q : Int) % 2 = 0) ∨ (q % 2 = 1 ∧ (q : Int) % 2 = 1) := by omega
            rcases hpar with ⟨m1, m2⟩ | ⟨m1, m2⟩
            · have Hm1 := Lib.hid m1
              clear m1
              go_wp2_with (first
        | (at_builtin
           go_must (refine wpList_append_bytes rfl (.tmp 76) (.tmp 80) _ rfl w1.heap.size _ 5 j Tryd.underlying42 I.out.1 I.out.2.1 I.out.2.2.1 I.out.2.2.2 (l := o2) (m := [32]) (.slice ya o2.length yc) rfl (by exact hst2.out.1.alloc _) (some ⟨wr.heap.size, 0, none⟩) 1 1 rfl (by exact bytes_row (xs := [.int .u8 32]) rfl rfl (fun x hx => by simp at hx; omega) (by unfold maxLen; simp) 1 1 rfl rfl) (by omega) (by simp; omega) ?_)
           intro xa5 xn5 xc5 w5 hown b5
           obtain ⟨ya5, yc5, hxv⟩ := hown.form
           injection hxv with q1 q2 q3
           subst q1 q2 q3
           have S5 := Lib.hid (And.intro hown ((hst2.out.2.alloc hbz2 _).trans b5))
           clear hown b5))
              go_roundw
              case rel => exact ⟨q + 1, o2 ++ [32], xa5, xc5, hlt2, by go_num, by simp [ho2], by simp; omega, (Hbe.out 32 (by rw [if_pos Hm1.out])).symm, by simpa [ho2] using S5⟩
              case measure => simp [intOf]; omega
            · have Hm1 := Lib.hid m1
              clear m1
              go_wp2_with (first
        | (at_builtin
           go_must (refine wpList_append_bytes rfl (.tmp 76) (.tmp 80) _ rfl w1.heap.size _ 5 j Tryd.underlying42 I.out.1 I.out.2.1 I.out.2.2.1 I.out.2.2.2 (l := o2) (m := [10]) (.slice ya o2.length yc) rfl (by exact hst2.out.1.alloc _) (some ⟨wr.heap.size, 0, none⟩) 1 1 rfl (by exact bytes_row (xs := [.int .u8 10]) rfl rfl (fun x hx => by simp at hx; omega) (by unfold maxLen; simp) 1 1 rfl rfl) (by omega) (by simp; omega) ?_)
           intro xa5 xn5 xc5 w5 hown b5
           obtain ⟨ya5, yc5, hxv⟩ := hown.form
           injection hxv with q1 q2 q3
           subst q1 q2 q3
           have S5 := Lib.hid (And.intro hown ((hst2.out.2.alloc hbz2 _).trans b5))
           clear hown b5))
              go_roundw
              case rel => exact ⟨q + 1, o2 ++ [10], xa5, xc5, hlt2, by go_num, by simp [ho2], by simp; omega, (Hbe.out 10 (by rw [if_neg (by have := Hm1.out; omega)])).symm, by simpa [ho2] using S5⟩
              case measure => simp [intOf]; omega
          · have g1 : decide ((q : Int) < (v.tmod 8)) = false := by simp only [decide_eq_false_iff_not]; omega
            have hqc : q = cn := by omega
            have ho3 : o2 = (o ++ ((bs s).take p).drop aa) ++ blkN (cntN more k) := by rw [ho2e.out, Hcn.out, hqc, Ho1.out]
            have Ho3 := Lib.hid ho3
            clear ho3
            subst hQ
            go_wp2_with fail
            go_roundw
            case rel => exact ⟨k + 1, p, o2, ya, yc, by omega, by go_num, rfl, hpn, by omega, rfl, by rw [Ho3.out]; exact Hmade.out, hst2.out⟩
            case measure => simp [intOf]; omega
      · have d3 : decide ((k : Int) < (nm : Int)) = false := by simp; omega
        have hce : cn = 0 := by rw [← Hcn.out]; unfold cntN; rw [List.getElem?_eq_none (by rw [Hnm.out]; omega)]
        go_wp2_with (first
        | (at_builtin
           have _t := tokA
           go_must (refine wpList_append_text rfl (.tmp 56) (.tmp 60) _ _ rfl w1.heap.size 5 j Tryd.underlying42 Tryd.underlying9 I.out.1 I.out.2.1 I.out.2.2.1 I.out.2.2.2 (.slice oa o.length oc) o rfl (by exact hst.out.1) (s.extract aa p) rfl (by unfold maxLen; omega) (by omega) hbz ?_)
           intro xa xn xc w4 hown b4
           rw [Hex.out.1, Ho1.out] at hown
           obtain ⟨xa', xc', hxv⟩ := hown.form
           injection hxv with q1 q2 q3
           subst q1 q2 q3
           have S4 := Lib.hid (And.intro hown (hst.out.2.trans b4))
           skip
           clear hown b4 tokA _t))
        go_hide hQ
        go_loopw [8, 13] (fun out jv wx => ∃ (q : Nat) (o2 : List Nat) (ya : Option Addr) (yc : Nat), q ≤ cn ∧ jv = .int .i64 (q : Int) ∧ out = .slice ya o2.length yc ∧ o2.length = o.length + (p - aa) + q ∧ Hid (o2 = o1 ++ blkN q) ∧ Hid (Own1 wx w1.heap.size 5 1 IsByte (.slice ya o2.length yc) o2 ∧ Below w1.heap.size w1 wx)) (fun _ jv _ => cn - (intOf jv).toNat)
        case atStart => exact ⟨0, _, _, _, Nat.zero_le _, by go_num, rfl, by rw [Ho1l.out]; omega, by rw [blk_zero, List.append_nil]; exact Lib.hid rfl, S4.out⟩
        case round =>
          obtain ⟨q, o2, ya, yc, hq, rfl, rfl, ho2, ho2e, hst2⟩ := hrel
          have c3 : (0 : Int) ≤ (q : Int) := Int.natCast_nonneg _
          have hbz2 := hst2.out.2.size
          have hlt2 : ¬ q < cn := by omega
          · have g1 : decide ((q : Int) < (0 : Int)) = false := by simp only [decide_eq_false_iff_not]; omega
            have hqc : q = cn := by omega
            have ho3 : o2 = (o ++ ((bs s).take p).drop aa) ++ blkN (cntN more k) := by rw [ho2e.out, Hcn.out, hqc, Ho1.out]
            have Ho3 := Lib.hid ho3
            clear ho3
            subst hQ
            go_wp2_with fail
            go_roundw
            case rel => exact ⟨k + 1, p, o2, ya, yc, by omega, by go_num, rfl, hpn, by omega, rfl, by rw [Ho3.out]; exact Hmade.out, hst2.out⟩
            case measure => simp [intOf]; omega
    · have d2 : decide ((k : Int) < (NT : Int)) = false := by simp; omega
      subst hpe
      by_cases hmo : k < nm
      · obtain ⟨v, hv⟩ := get_some Hnm.out hmo
        have d3 : decide ((k : Int) < (nm : Int)) = true := by simp; omega
        obtain ⟨b', off', x', rfl, hbB', hxl', ⟨rfl, hvw⟩, hx'⟩ := (Hs.out.below (B1.out.trans (hst.out.2.mono B1.out.size))).at_ hv
        have g0 := hx' 0 _ rfl
        simp only [Nat.mul_one, Nat.add_zero] at g0
        have htm := tmod_in v
        have hce : cn = (v.tmod 8).toNat := by rw [← Hcn.out]; unfold cntN; rw [hv]
        have HV := Lib.hid hv
        clear hx' hxl' hv
        go_wp2_with (first
        | (at_builtin
           have _t := tokA
           go_must (refine wpList_append_text rfl (.tmp 56) (.tmp 60) _ _ rfl w1.heap.size 5 j Tryd.underlying42 Tryd.underlying9 I.out.1 I.out.2.1 I.out.2.2.1 I.out.2.2.2 (.slice oa o.length oc) o rfl (by exact hst.out.1) (s.extract aa p) rfl (by unfold maxLen; omega) (by omega) hbz ?_)
           intro xa xn xc w4 hown b4
           rw [Hex.out.1, Ho1.out] at hown
           obtain ⟨xa', xc', hxv⟩ := hown.form
           injection hxv with q1 q2 q3
           subst q1 q2 q3
           have S4 := Lib.hid (And.intro hown (hst.out.2.trans b4))
           obtain ⟨b2, off2, x2, hs2, _, _, ⟨rfl, _⟩, hx2⟩ := (Hs.out.below (B1.out.trans (S4.out.2.mono B1.out.size))).at_ HV.out
           injection hs2 with hs2
           injection hs2 with r1 r2
           subst r1 r2
           have g0' := hx2 0 _ rfl
           simp only [Nat.mul_one, Nat.add_zero] at g0'
           try rw [hkk] at g0'
           clear hx2
           clear hown b4 tokA _t))
        go_hide hQ
        go_loopw [8, 13] (fun out jv wx => ∃ (q : Nat) (o2 : List Nat) (ya : Option Addr) (yc : Nat), q ≤ cn ∧ jv = .int .i64 (q : Int) ∧ out = .slice ya o2.length yc ∧ o2.length = o.length + (p - aa) + q ∧ Hid (o2 = o1 ++ blkN q) ∧ Hid (Own1 wx w1.heap.size 5 1 IsByte (.slice ya o2.length yc) o2 ∧ Below w1.heap.size w1 wx)) (fun _ jv _ => cn - (intOf jv).toNat)
        case atStart => exact ⟨0, _, _, _, Nat.zero_le _, by go_num, rfl, by rw [Ho1l.out]; omega, by rw [blk_zero, List.append_nil]; exact Lib.hid rfl, S4.out⟩
        case round =>
          obtain ⟨q, o2, ya, yc, hq, rfl, rfl, ho2, ho2e, hst2⟩ := hrel
          have c3 : (0 : Int) ≤ (q : Int) := Int.natCast_nonneg _
          have hbz2 := hst2.out.2.size
          by_cases hlt2 : q < cn
          · have g1 : decide ((q : Int) < (v.tmod 8)) = true := by simp only [decide_eq_true_eq]; omega
            have hbe : ∀ d, d = (if q % 2 = 0 then 32 else 10) → o1 ++ blkN (q + 1) = o2 ++ [d] := fun d hd => by rw [blk_succ, ho2e.out, hd]; simp
            have Hbe := Lib.hid hbe
            clear hbe
            have hpar : (q % 2 = 0 ∧ (q : Int) % 2 = 0) ∨ (q % 2 = 1 ∧ (q : Int) % 2 = 1) := by omega
            rcases hpar with ⟨m1, m2⟩ | ⟨m1, m2⟩
            · have Hm1 := Lib.hid m1
              clear m1
              go_wp2_with (first
        | (at_builtin
           go_must (refine wpList_append_bytes rfl (.tmp 76) (.tmp 80) _ rfl w1.heap.size _ 5 j Tryd.underlying42 I.out.1 I.out.2.1 I.out.2.2.1 I.out.2.2.2 (l := o2) (m := [32]) (.slice ya o2.length yc) rfl (by exact hst2.out.1.alloc _) (some ⟨wr.heap.size, 0, none⟩) 1 1 rfl (by exact bytes_row (xs := [.int .u8 32]) rfl rfl (fun x hx => by simp at hx; omega) (by unfold maxLen; simp) 1 1 rfl rfl) (by omega) (by simp; omega) ?_)
           intro xa5 xn5 xc5 w5 hown b5
           obtain ⟨ya5, yc5, hxv⟩ := hown.form
           injection hxv with q1 q2 q3
           subst q1 q2 q3
           have S5 := Lib.hid (And.intro hown ((hst2.out.2.alloc hbz2 _).trans b5))
           clear hown b5))
              go_roundw
              case rel => exact ⟨q + 1, o2 ++ [32], xa5, xc5, hlt2, by go_num, by simp [ho2], by simp; omega, (Hbe.out 32 (by rw [if_pos Hm1.out])).symm, by simpa [ho2] using S5⟩
              case measure => simp [intOf]; omega
            · have Hm1 := Lib.hid m1
              clear m1
              go_wp2_with (first
        | (at_builtin
           go_must (refine wpList_append_bytes rfl (.tmp 76) (.tmp 80) _ rfl w1.heap.size _ 5 j Tryd.underlying42 I.out.1 I.out.2.1 I.out.2.2.1 I.out.2.2.2 (l := o2) (m := [10]) (.slice ya o2.length yc) rfl (by exact hst2.out.1.alloc _) (some ⟨wr.heap.size, 0, none⟩) 1 1 rfl (by exact bytes_row (xs := [.int .u8 10]) rfl rfl (fun x hx => by simp at hx; omega) (by unfold maxLen; simp) 1 1 rfl rfl) (by omega) (by simp; omega) ?_)
           intro xa5 xn5 xc5 w5 hown b5
           obtain ⟨ya5, yc5, hxv⟩ := hown.form
           injection hxv with q1 q2 q3
           subst q1 q2 q3
           have S5 := Lib.hid (And.intro hown ((hst2.out.2.alloc hbz2 _).trans b5))
           clear hown b5))
              go_roundw
              case rel => exact ⟨q + 1, o2 ++ [10], xa5, xc5, hlt2, by go_num, by simp [ho2], by simp; omega, (Hbe.out 10 (by rw [if_neg (by have := Hm1.out; omega)])).symm, by simpa [ho2] using S5⟩
              case measure => simp [intOf]; omega
          · have g1 : decide ((q : Int) < (v.tmod 8)) = false := by simp only [decide_eq_false_iff_not]; omega
            have hqc : q = cn := by omega
            have ho3 : o2 = (o ++ ((bs s).take p).drop aa) ++ blkN (cntN more k) := by rw [ho2e.out, Hcn.out, hqc, Ho1.out]
            have Ho3 := Lib.hid ho3
            clear ho3
            subst hQ
            go_wp2_with fail
            go_roundw
            case rel => exact ⟨k + 1, p, o2, ya, yc, by omega, by go_num, rfl, hpn, by omega, rfl, by rw [Ho3.out]; exact Hmade.out, hst2.out⟩
            case measure => simp [intOf]; omega
      · have d3 : decide ((k : Int) < (nm : Int)) = false := by simp; omega
        have hce : cn = 0 := by rw [← Hcn.out]; unfold cntN; rw [List.getElem?_eq_none (by rw [Hnm.out]; omega)]
        go_wp2_with (first
        | (at_builtin
           have _t := tokA
           go_must (refine wpList_append_text rfl (.tmp 56) (.tmp 60) _ _ rfl w1.heap.size 5 j Tryd.underlying42 Tryd.underlying9 I.out.1 I.out.2.1 I.out.2.2.1 I.out.2.2.2 (.slice oa o.length oc) o rfl (by exact hst.out.1) (s.extract aa p) rfl (by unfold maxLen; omega) (by omega) hbz ?_)
           intro xa xn xc w4 hown b4
           rw [Hex.out.1, Ho1.out] at hown
           obtain ⟨xa', xc', hxv⟩ := hown.form
           injection hxv with q1 q2 q3
           subst q1 q2 q3
           have S4 := Lib.hid (And.intro hown (hst.out.2.trans b4))
           skip
           clear hown b4 tokA _t))
        go_hide hQ
        go_loopw [8, 13] (fun out jv wx => ∃ (q : Nat) (o2 : List Nat) (ya : Option Addr) (yc : Nat), q ≤ cn ∧ jv = .int .i64 (q : Int) ∧ out = .slice ya o2.length yc ∧ o2.length = o.length + (p - aa) + q ∧ Hid (o2 = o1 ++ blkN q) ∧ Hid (Own1 wx w1.heap.size 5 1 IsByte (.slice ya o2.length yc) o2 ∧ Below w1.heap.size w1 wx)) (fun _ jv _ => cn - (intOf jv).toNat)
        case atStart => exact ⟨0, _, _, _, Nat.zero_le _, by go_num, rfl, by rw [Ho1l.out]; omega, by rw [blk_zero, List.append_nil]; exact Lib.hid rfl, S4.out⟩
        case round =>
          obtain ⟨q, o2, ya, yc, hq, rfl, rfl, ho2, ho2e, hst2⟩ := hrel
          have c3 : (0 : Int) ≤ (q : Int) := Int.natCast_nonneg _
          have hbz2 := hst2.out.2.size
          have hlt2 : ¬ q < cn := by omega
          · have g1 : decide ((q : Int) < (0 : Int)) = false := by simp only [decide_eq_false_iff_not]; omega
            have hqc : q = cn := by omega
            have ho3 : o2 = (o ++ ((bs s).take p).drop aa) ++ blkN (cntN more k) := by rw [ho2e.out, Hcn.out, hqc, Ho1.out]
            have Ho3 := Lib.hid ho3
            clear ho3
            subst hQ
            go_wp2_with fail
            go_roundw
            case rel => exact ⟨k + 1, p, o2, ya, yc, by omega, by go_num, rfl, hpn, by omega, rfl, by rw [Ho3.out]; exact Hmade.out, hst2.out⟩
            case measure => simp [intOf]; omega
end Go.Proofs.YtjjppnfdnjdhlaaDoor
