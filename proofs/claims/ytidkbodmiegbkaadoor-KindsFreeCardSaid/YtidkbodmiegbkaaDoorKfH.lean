/- Chapter 09: the reference's Free of an expression. -/
import Derived.Test.YtidkbodmiegbkaaDoorKfE
import Derived.Test.YtidkbodmiegbkaaDoorKeA
namespace Go.Proofs.YtidkbodmiegbkaaDoor
set_option linter.unusedSimpArgs false
set_option linter.unusedVariables false
open Go.RowKit

def rowLen : Value → Nat | .slice _ n _ => n | _ => 0
/-- the name at a place -/
def nmb (l : List ND) (j : Nat) : List UInt8 := match l[j]? with | some d => bsN d.text | none => []
/-- where a name stands free -/
structure FreeW (F : List (List Nat)) (l : List ND) (FA : Nat → Prop) : Prop where
  pin : ∀ b, (∃ s ∈ F, b = bsN s) ↔ ∃ j, j < l.length ∧ FA j ∧ b = nmb l j
  at_ : ∀ i d, l[i]? = some d → ∃ vs' u, Und l vs' i u ∧ (FA i ↔ d.kind = 7 ∧ d.text ∉ vs')
theorem free_w {l : List ND} {t : Tr} (hg : t.Good) (hd : t.deep ≤ 32) (hun : Und l [] 0 t) (hlen : l.length = t.size) : FreeW (frR 32 t [] []) l (fun j => ∃ s, (frS 32 t [])[j]? = some (some s)) := by
  have key : ∀ i d, l[i]? = some d → ∃ vs' u, Und l vs' i u ∧ (frS 32 t [])[i]? = some (if d.kind = 7 ∧ d.text ∉ vs' then some d.text else none) := by
    intro i d hd2
    have hi := (List.getElem?_eq_some_iff.1 hd2).1
    obtain ⟨u, vs', hgu, hu, hdu, he⟩ := und_free hg hd hun i (by omega)
    rw [Nat.zero_add] at hu
    obtain ⟨k, s', m, ks⟩ := u
    have h1 := (stands_node hu.stands).1
    rw [hd2] at h1
    injection h1 with h1
    subst h1
    refine ⟨vs', _, hu, ?_⟩
    rw [he]
    simp only [flagT]
    congr 1
    by_cases h7 : k = 7
    · subst h7; simp
    · have : ¬ ((k : Int) = 7) := by omega
      simp [h7, this]
  refine ⟨fun b => ⟨?_, ?_⟩, ?_⟩
  · rintro ⟨s, hs, rfl⟩
    have h := ((fr_mem 32 t [] [] s).1 hs).resolve_left (by simp)
    obtain ⟨i, hi⟩ := List.mem_iff_getElem?.1 h
    have hl := (List.getElem?_eq_some_iff.1 hi).1
    rw [frS_len 32 t [] hd, ← hlen] at hl
    obtain ⟨d, hd2⟩ : ∃ d, l[i]? = some d := ⟨_, List.getElem?_eq_getElem hl⟩
    obtain ⟨vs', u, _, he⟩ := key i d hd2
    rw [hi] at he
    injection he with he
    split at he
    · injection he with he
      exact ⟨i, hl, ⟨s, hi⟩, by unfold nmb; rw [hd2, he]⟩
    · cases he
  · rintro ⟨i, hl, ⟨s, hi⟩, rfl⟩
    obtain ⟨d, hd2⟩ : ∃ d, l[i]? = some d := ⟨_, List.getElem?_eq_getElem hl⟩
    obtain ⟨vs', u, _, he⟩ := key i d hd2
    rw [hi] at he
    injection he with he
    split at he
    · injection he with he
      subst he
      exact ⟨d.text, (fr_mem 32 t [] [] _).2 (.inr (List.mem_iff_getElem?.2 ⟨i, hi⟩)), by unfold nmb; rw [hd2]⟩
    · cases he
  · intro i d hd2
    obtain ⟨vs', u, hu, he⟩ := key i d hd2
    refine ⟨vs', u, hu, ?_⟩
    constructor
    · rintro ⟨s, hi⟩
      rw [hi] at he
      injection he with he
      split at he
      · assumption
      · cases he
    · intro h
      rw [if_pos h] at he
      exact ⟨_, he⟩
theorem least_few {F : List (List Nat)} {l : List ND} {FA : Nat → Prop} (h : FreeW F l FA) {out : List (List UInt8)} (ho : LeastO (fun b => ∃ s ∈ F, b = bsN s) out) : out.length ≤ l.length := by
  have := few_in out ((List.range l.length).map (nmb l)) (ho.asc.imp fun {a b} hab e => by subst e; exact List.lt_irrefl _ hab) (fun x hx => by
    obtain ⟨j, hj, _, e⟩ := (h.pin x).1 (ho.ins x hx)
    exact List.mem_map.2 ⟨j, List.mem_range.2 hj, e.symm⟩)
  simpa using this
theorem less_eq (a b : ByteArray) : Op.bytesLess a.toList b.toList = decide (bsL a < bsL b) := by rw [bytesLess_eq, Lib.toList_data, Lib.toList_data]; rfl
theorem same_eq (a b : ByteArray) : (a.toList == b.toList) = decide (bsL a = bsL b) := by
  rw [Lib.toList_data, Lib.toList_data]
  by_cases e : bsL a = bsL b
  · rw [decide_eq_true e]; simpa [bsL] using e
  · rw [decide_eq_false e]; simpa [bsL] using e
/-- how the condition of the inner loop comes out -/
structure TakeB (C : Prop) (is : Bool) (s lt : List UInt8) (tk : Bool) : Prop where
  yes : tk = true → C ∧ (is = false ∨ s < lt)
  no : tk = false → ¬ C ∨ (is = true ∧ ¬ s < lt)

set_option maxRecDepth 100000 in
set_option maxHeartbeats 16000000 in
theorem rfree_ok {t : Tr} {v : Value} (w w0 : World) (hs : SlR w0 w0.heap.size 4 (ND.Is w0 w0.heap.size) v (ndsT t 0)) (hok : ∀ d ∈ ndsT t 0, NdOk d) (hw : Below w0.heap.size w0 w) (hg : t.Good) (hd : t.deep ≤ 32) (hsz : t.size ≤ 256) :
    Calls Tryd.prog 13 #[.agg #[v]] w fun e w' => ∃ (a : Option Addr) (c : Nat) (L : List ByteArray), e = .returned (.tuple #[.slice a L.length c, .int .i64 0]) ∧ L.length ≤ 256 ∧ FreeL (frR 32 t [] []) L ∧ Own1 w' w.heap.size 9 1 IsText (.slice a L.length c) L ∧ Below w.heap.size w w' := by
  obtain ⟨l, hl⟩ : ∃ l, ndsT t 0 = l := ⟨_, rfl⟩
  have hst := stands_nds t
  have hr : rightE l = 0 := by rw [← hl]; exact (right_of hg hsz hd).1
  have hlen : l.length = t.size := by rw [← hl, nds_len]
  rw [hl] at hs hok hst
  obtain ⟨a, c, rfl⟩ : ∃ a c, v = .slice a l.length c := by obtain ⟨a, c, h, _⟩ := hs.form; exact ⟨a, c, h⟩
  have HR := Lib.hid (rright (w.alloc (.cells #[.slice a l.length c] 24)) w0 hs hok (hw.alloc hw.size _))
  rw [hr] at HR
  have hun : Und l [] 0 t := Und.root hst hlen
  obtain ⟨F, hF⟩ : ∃ z, frR 32 t [] [] = z := ⟨_, rfl⟩
  obtain ⟨FA, hFW⟩ : ∃ FA, FreeW F l FA := ⟨_, hF ▸ free_w hg hd hun hlen⟩
  rw [hF]
  have hl256 : l.length ≤ 256 := by omega
  obtain ⟨n, hn⟩ : ∃ n, l.length = n := ⟨_, rfl⟩
  have BA := Lib.hid (fun w3 (h3 : Below w0.heap.size w0 w3) vs p u (hu : Und l vs p u) s (hb : Bytes s) => bound_any w3 w0 hs hok hl256 h3 hu s hb)
  have FWH := Lib.hid hFW
  rw [hn] at HR hs hl256 BA ⊢
  have HS := Lib.hid hs
  have HW := Lib.hid hw
  have HN := Lib.hid hn
  have HOK := Lib.hid hok
  have n0 : (0 : Int) ≤ (n : Int) := Int.natCast_nonneg _
  obtain ⟨jS, hi, hz, hsz2, hby⟩ := info_parts info_S9
  have I := Lib.hid (And.intro hi (And.intro hz (And.intro hsz2 hby)))
  clear hs hok hw hr hg hd hsz hst hl hn hun hlen hF hFW hi hz hsz2 hby
  go_enter Tryd.func13, Tryd.ntmps13
  go_wp2_with (first
    | (go_at_call 16; go_must (refine HR.out.mono ?_); rintro e w3 ⟨rfl, hb⟩
       go_must (have B3 : Hid (Below w.heap.size w w3) := Lib.hid (((Below.refl _ _).alloc (Nat.le_refl _) _).trans (hb.mono (by simp <;> omega))))
       go_must (have E3 := Lib.hid ((Blk.new w 24 #[.slice a n c]).below hb (by simp <;> omega)))
       clear hb)
    | fail)
  obtain ⟨eb, heb⟩ : ∃ z, w.heap.size = z := ⟨_, rfl⟩
  have HEB := Lib.hid heb
  rw [heb] at E3 ⊢
  clear heb
  go_loopw [5, 6, 7, 8, 9] (fun v5 _ _ _ _ wr => ∃ L : List ByteArray, Hid (Own1 wr (eb + 1) 9 1 IsText v5 L ∧ LeastO (fun b => ∃ s ∈ F, b = bsN s) (L.map bsL) ∧ Blk wr eb 24 #[.slice a n c] ∧ Below w.heap.size w wr)) (fun v5 _ _ _ _ _ => n + 1 - rowLen v5)
  case atStart => exact ⟨[], Lib.hid ⟨⟨[], ⟨rfl, .inl ⟨rfl, rfl⟩⟩, FlatR.nil_⟩, LeastO.nil _, E3.out, B3.out⟩⟩
  case round =>
    obtain ⟨L, hr⟩ := hrel
    have RO0 := hr.out.1
    have LO := Lib.hid hr.out.2.1
    have E5 := Lib.hid hr.out.2.2.1
    have B5 := Lib.hid hr.out.2.2.2
    clear hr
    obtain ⟨oa, oc, rfl⟩ := RO0.form
    obtain ⟨k, hk⟩ : ∃ k, L.length = k := ⟨_, rfl⟩
    have hkn : k ≤ n := by have := least_few FWH.out LO.out; rw [HN.out, List.length_map, hk] at this; exact this
    rw [hk] at RO0 ⊢
    have RO := Lib.hid RO0
    have HK := Lib.hid hk
    clear RO0 hk
    obtain ⟨wo, hwo⟩ : ∃ wo, wo = wr := ⟨wr, rfl⟩
    subst hwo
    go_wp2_with fail
    go_loopw [6, 7, 8, 9] (fun v6 v7 v8 _ wr => ∃ (i : Nat) (is : Bool) (lt : ByteArray), i ≤ n ∧ v6 = .string lt ∧ v7 = .bool is ∧ v8 = .int .i64 (i : Int) ∧ Hid (LeastI (fun j => FA j ∧ After (L.map bsL) (nmb l j)) (nmb l) i is (bsL lt) ∧ Below wo.heap.size wo wr)) (fun _ _ v8 _ _ => n - (intOf v8).toNat)
    case atStart => exact ⟨0, false, ⟨#[]⟩, Nat.zero_le _, rfl, rfl, rfl, Lib.hid ⟨LeastI.zero _ _ _, Below.refl _ _⟩⟩
    case round =>
      obtain ⟨i, is, lt, hi, rfl, rfl, rfl, hin⟩ := hrel
      have LI := Lib.hid hin.out.1
      have BWO := Lib.hid hin.out.2
      clear hin
      have E6 := Lib.hid (E5.out.below BWO.out E5.out.lt)
      have c6 : wr.cell? ⟨eb, 0, none⟩ = some (.slice a n c) := E6.out.cell rfl
      have l6 : eb < wr.heap.size := E6.out.lt
      by_cases hlt : i < n
      · obtain ⟨d, hd⟩ : ∃ d, l[i]? = some d := ⟨_, List.getElem?_eq_getElem (by rw [HN.out]; exact hlt)⟩
        obtain ⟨b, off, x, rfl, hbB, hxl, ⟨kv, rfl, hkv⟩, hx⟩ := HS.out.at_ hd
        have hwr : Below w0.heap.size w0 wr := (HW.out.trans (B5.out.mono HW.out.size)).trans (BWO.out.mono (by have := HW.out.size; have := B5.out.size; omega))
        have z0 := hx 0 _ rfl
        have z1 := hx 1 _ rfl
        simp only [Nat.add_zero] at z0
        have x0 : wr.cell? ⟨b, off + i * 4, none⟩ = some (.int .i64 d.kind) := (hwr.cell (p := ⟨b, off + i * 4, none⟩) hbB).trans z0
        have x1 : wr.cell? ⟨b, off + i * 4 + 1, none⟩ = some (.string (txt d.text)) := (hwr.cell (p := ⟨b, off + i * 4 + 1, none⟩) hbB).trans z1
        obtain ⟨vs', u, hu, hfa⟩ := FWH.out.at_ i d hd
        have BX := Lib.hid (BA.out wr hwr vs' i u hu d.text (HOK.out d (List.mem_iff_getElem?.2 ⟨i, hd⟩)).1)
        have hnm : nmb l i = bsN d.text := by unfold nmb; rw [hd]
        have HC : Hid ((FA i ∧ After (L.map bsL) (nmb l i)) ↔ d.kind = 7 ∧ d.text ∉ vs' ∧ After (L.map bsL) (bsN d.text)) := Lib.hid (by rw [hfa, hnm, and_assoc])
        have HNM := Lib.hid hnm
        have HBL := Lib.hid (HOK.out d (List.mem_iff_getElem?.2 ⟨i, hd⟩)).2.1
        have hkk : (k = 0 ∧ After (L.map bsL) (bsN d.text)) ∨ ∃ (m : Nat) (tl : ByteArray) (ob oo : Nat), k = m + 1 ∧ oa = some ⟨ob, oo, none⟩ ∧ (After (L.map bsL) (bsN d.text) ↔ bsL tl < bsN d.text) ∧ ∀ w', Below wo.heap.size wo w' → w'.cell? ⟨ob, oo + m, none⟩ = some (.string tl) := by
          rcases Nat.eq_zero_or_pos k with h0 | h0
          · refine .inl ⟨h0, fun x hx => ?_⟩
            have : L = [] := List.eq_nil_of_length_eq_zero (by rw [HK.out]; exact h0)
            rw [this] at hx
            simp at hx
          · obtain ⟨m, rfl⟩ : ∃ m, k = m + 1 := ⟨k - 1, by omega⟩
            have hLm : L[m]? = some (L[m]'(by rw [HK.out]; omega)) := List.getElem?_eq_getElem _
            have hsplit : L = L.take m ++ [L[m]'(by rw [HK.out]; omega)] := by
              rw [← List.take_succ_eq_append_getElem]
              exact (List.take_of_length_le (by rw [HK.out]; exact Nat.le_refl _)).symm
            obtain ⟨tl, htl⟩ : ∃ z, L[m]'(by rw [HK.out]; omega) = z := ⟨_, rfl⟩
            rw [htl] at hLm hsplit
            obtain ⟨ob, oo, xo, ho, hobB, _, ⟨rfl, _⟩, hxo⟩ := (RO.out.read (by decide)).at_ hLm
            have y0 := hxo 0 _ rfl
            simp only [Nat.add_zero, Nat.mul_one] at y0
            refine .inr ⟨m, tl, ob, oo, rfl, ho, ?_, fun w' hw' => (hw'.cell (p := ⟨ob, oo + m, none⟩) hobB).trans y0⟩
            have ha := LO.out.asc
            have e : L.map bsL = (L.take m).map bsL ++ [bsL tl] := by
              have := congrArg (List.map bsL) hsplit
              rwa [List.map_append] at this
            rw [e] at ha ⊢
            exact after_last ha
        have i0 : (0 : Int) ≤ (i : Int) := Int.natCast_nonneg _
        have i1 : (i : Int) < (n : Int) := by omega
        have HLT := Lib.hid hlt
        have hk256 : k ≤ 256 := by omega
        clear hd hxl hkv hx z0 z1 hu hfa hnm hlt hi
        go_upto_region 10 with fail
        go_cut [65] from 28 to 65 (fun v65 wx => ∃ tk : Bool, v65 = .bool tk ∧ Hid (TakeB (FA i ∧ After (L.map bsL) (nmb l i)) is (bsN d.text) (bsL lt) tk ∧ Below wr.heap.size wr wx))
        case first =>
          by_cases h7 : d.kind = 7
          · have e7 : (d.kind == 7) = true := by rw [h7]; rfl
            have HK7 := Lib.hid h7
            clear h7
            by_cases hbd : d.text ∈ vs'
            · have ebd : decide (d.text ∈ vs') = true := decide_eq_true hbd
              have HBD := Lib.hid hbd
              rw [ebd] at BX
              clear ebd hbd
              go_wp2_with (first
                | (go_at_call 20; go_must (refine BX.out.mono ?_); rintro e w6 ⟨rfl, hb⟩; skip; go_must (have B6 := Lib.hid hb); clear hb)
                | fail)
              go_meet
              exact ⟨false, rfl, Lib.hid ⟨⟨(fun h => by cases h), fun _ => .inl fun h => absurd HBD.out (HC.out.1 h).2.1⟩, B6.out⟩⟩
            · have ebd : decide (d.text ∈ vs') = false := decide_eq_false hbd
              have HBD := Lib.hid hbd
              rw [ebd] at BX
              clear ebd hbd
              rcases hkk with ⟨rfl, hL⟩ | ⟨m, tl, ob, oo, rfl, rfl, haf, hyy⟩
              · have HA0 := Lib.hid hL
                clear hL
                rcases is with _ | _
                · go_wp2_with (first
                    | (go_at_call 20; go_must (refine BX.out.mono ?_); rintro e w6 ⟨rfl, hb⟩; skip; go_must (have B6 := Lib.hid hb); clear hb)
                    | fail)
                  go_meet
                  exact ⟨true, rfl, Lib.hid ⟨⟨fun _ => ⟨HC.out.2 ⟨HK7.out, HBD.out, HA0.out⟩, .inl rfl⟩, (fun h => by cases h)⟩, B6.out⟩⟩
                · by_cases hls : bsN d.text < bsL lt
                  · have g3 : Op.bytesLess (txt d.text).toList lt.toList = true := by rw [less_eq]; exact decide_eq_true hls
                    have HLS := Lib.hid hls
                    clear hls
                    go_wp2_with (first
                      | (go_at_call 20; go_must (refine BX.out.mono ?_); rintro e w6 ⟨rfl, hb⟩; skip; go_must (have B6 := Lib.hid hb); clear hb)
                      | fail)
                    go_meet
                    exact ⟨true, rfl, Lib.hid ⟨⟨fun _ => ⟨HC.out.2 ⟨HK7.out, HBD.out, HA0.out⟩, .inr HLS.out⟩, (fun h => by cases h)⟩, B6.out⟩⟩
                  · have g3 : Op.bytesLess (txt d.text).toList lt.toList = false := by rw [less_eq]; exact decide_eq_false hls
                    have HLS := Lib.hid hls
                    clear hls
                    go_wp2_with (first
                      | (go_at_call 20; go_must (refine BX.out.mono ?_); rintro e w6 ⟨rfl, hb⟩; skip; go_must (have B6 := Lib.hid hb); clear hb)
                      | fail)
                    go_meet
                    exact ⟨false, rfl, Lib.hid ⟨⟨(fun h => by cases h), fun _ => .inr ⟨rfl, HLS.out⟩⟩, B6.out⟩⟩
              · have HAF := Lib.hid haf
                have HY := Lib.hid hyy
                have hm3 : ((m + 1 : Nat) : Int) - 1 = (m : Int) := by omega
                have hm0 : (0 : Int) ≤ (m : Int) := Int.natCast_nonneg _
                have hm2 : (((m + 1 : Nat) : Int) == 0) = false := by simp; omega
                have hm4 : (((m : Int) + 1) == 0) = false := by simp; omega
                have hm5 : (m : Int) < ((m + 1 : Nat) : Int) := by omega
                have hm6 : (m : Int) < (m : Int) + 1 := by omega
                have hm7 : (m : Int) ≤ 256 := by omega
                clear haf hyy
                rcases tx_tri (bsN d.text) (bsL tl) with g | g | g
                · have g1 : Op.bytesLess (txt d.text).toList tl.toList = true := by rw [less_eq]; exact decide_eq_true g
                  have g2 : ((txt d.text).toList == tl.toList) = false := by rw [same_eq]; exact decide_eq_false (fun e => List.lt_irrefl _ (e ▸ g))
                  have HG := Lib.hid g
                  clear g
                  go_wp2_with (first
                    | (go_at_call 20; go_must (refine BX.out.mono ?_); rintro e w6 ⟨rfl, hb⟩; go_must (have y6 := HY.out w6 (BWO.out.trans (hb.mono BWO.out.size))); go_must (have B6 := Lib.hid hb); clear hb)
                    | fail)
                  go_meet
                  exact ⟨false, rfl, Lib.hid ⟨⟨(fun h => by cases h), fun _ => .inl fun h => absurd (List.lt_trans (HAF.out.1 (HC.out.1 h).2.2) HG.out) (List.lt_irrefl _)⟩, B6.out⟩⟩
                · have g1 : Op.bytesLess (txt d.text).toList tl.toList = false := by rw [less_eq]; exact decide_eq_false (fun h => List.lt_irrefl _ (g ▸ h))
                  have g2 : ((txt d.text).toList == tl.toList) = true := by rw [same_eq]; exact decide_eq_true g
                  have HG := Lib.hid g
                  clear g
                  go_wp2_with (first
                    | (go_at_call 20; go_must (refine BX.out.mono ?_); rintro e w6 ⟨rfl, hb⟩; go_must (have y6 := HY.out w6 (BWO.out.trans (hb.mono BWO.out.size))); go_must (have B6 := Lib.hid hb); clear hb)
                    | fail)
                  go_meet
                  exact ⟨false, rfl, Lib.hid ⟨⟨(fun h => by cases h), fun _ => .inl fun h => absurd (HAF.out.1 (HC.out.1 h).2.2) (fun h2 => List.lt_irrefl _ (HG.out ▸ h2))⟩, B6.out⟩⟩
                · have g1 : Op.bytesLess (txt d.text).toList tl.toList = false := by rw [less_eq]; exact decide_eq_false (fun h => List.lt_irrefl _ (List.lt_trans g h))
                  have g2 : ((txt d.text).toList == tl.toList) = false := by rw [same_eq]; exact decide_eq_false (fun e => List.lt_irrefl _ (e ▸ g))
                  have HG := Lib.hid g
                  clear g
                  rcases is with _ | _
                  · go_wp2_with (first
                      | (go_at_call 20; go_must (refine BX.out.mono ?_); rintro e w6 ⟨rfl, hb⟩; go_must (have y6 := HY.out w6 (BWO.out.trans (hb.mono BWO.out.size))); go_must (have B6 := Lib.hid hb); clear hb)
                      | fail)
                    go_meet
                    exact ⟨true, rfl, Lib.hid ⟨⟨fun _ => ⟨HC.out.2 ⟨HK7.out, HBD.out, (HAF.out.2 HG.out)⟩, .inl rfl⟩, (fun h => by cases h)⟩, B6.out⟩⟩
                  · by_cases hls : bsN d.text < bsL lt
                    · have g3 : Op.bytesLess (txt d.text).toList lt.toList = true := by rw [less_eq]; exact decide_eq_true hls
                      have HLS := Lib.hid hls
                      clear hls
                      go_wp2_with (first
                        | (go_at_call 20; go_must (refine BX.out.mono ?_); rintro e w6 ⟨rfl, hb⟩; go_must (have y6 := HY.out w6 (BWO.out.trans (hb.mono BWO.out.size))); go_must (have B6 := Lib.hid hb); clear hb)
                        | fail)
                      go_meet
                      exact ⟨true, rfl, Lib.hid ⟨⟨fun _ => ⟨HC.out.2 ⟨HK7.out, HBD.out, (HAF.out.2 HG.out)⟩, .inr HLS.out⟩, (fun h => by cases h)⟩, B6.out⟩⟩
                    · have g3 : Op.bytesLess (txt d.text).toList lt.toList = false := by rw [less_eq]; exact decide_eq_false hls
                      have HLS := Lib.hid hls
                      clear hls
                      go_wp2_with (first
                        | (go_at_call 20; go_must (refine BX.out.mono ?_); rintro e w6 ⟨rfl, hb⟩; go_must (have y6 := HY.out w6 (BWO.out.trans (hb.mono BWO.out.size))); go_must (have B6 := Lib.hid hb); clear hb)
                        | fail)
                      go_meet
                      exact ⟨false, rfl, Lib.hid ⟨⟨(fun h => by cases h), fun _ => .inr ⟨rfl, HLS.out⟩⟩, B6.out⟩⟩
          · have e7 : (d.kind == 7) = false := by simpa using h7
            have HK7 := Lib.hid h7
            clear h7
            go_wp2_with (first
              | (go_at_call 20; go_must (refine BX.out.mono ?_); rintro e w6 ⟨rfl, hb⟩; skip; go_must (have B6 := Lib.hid hb); clear hb)
              | fail)
            go_meet
            exact ⟨false, rfl, Lib.hid ⟨⟨(fun h => by cases h), fun _ => .inl fun h => absurd (HC.out.1 h).1 HK7.out⟩, Below.refl _ _⟩⟩
        case rest =>
          obtain ⟨tk, rfl, ht⟩ := hcut
          rename World => wx
          have TB := Lib.hid ht.out.1
          have BX2 : Hid (Below wo.heap.size wo wx) := Lib.hid (BWO.out.trans (ht.out.2.mono BWO.out.size))
          clear ht hkk BX
          rcases tk with _ | _
          · go_wp2_with fail
            go_roundw
            case rel => exact ⟨i + 1, is, lt, HLT.out, rfl, rfl, by go_num, Lib.hid ⟨LI.out.skip (by rw [HNM.out]; have := TB.out.no rfl; rw [HNM.out] at this; exact this), BX2.out⟩⟩
            case measure => simp [intOf]; have := HLT.out; omega
          · go_wp2_with fail
            go_roundw
            case rel => exact ⟨i + 1, true, txt d.text, HLT.out, rfl, rfl, by go_num, Lib.hid ⟨by have h1 := TB.out.yes rfl; have h2 := LI.out.take h1.1 (by rw [HNM.out]; exact h1.2); rw [HNM.out] at h2; exact h2, BX2.out⟩⟩
            case measure => simp [intOf]; have := HLT.out; omega
      · have hin : i = n := by omega
        have HIN := Lib.hid hin
        have i1 : decide ((i : Int) < (n : Int)) = false := by rw [hin]; simp
        have i2 : decide (i < n) = false := by rw [hin]; simp
        have RO6 := Lib.hid (RO.out.below BWO.out (Nat.le_refl _))
        clear hlt hi hin
        rcases is with _ | _
        · go_wp2_with fail
          go_ret2
          refine ⟨oa, oc, L, by rw [HK.out]; rfl, by rw [HK.out]; omega, ⟨LO.out.asc, fun b => ?_⟩, by rw [HK.out]; exact RO6.out.mono (by have := HEB.out; omega), B5.out.trans (BWO.out.mono B5.out.size)⟩
          refine LO.out.done (fun z hz ha => ?_) b
          obtain ⟨j, hj, hfj, rfl⟩ := (FWH.out.pin z).1 hz
          rcases LI.out with ⟨_, h⟩ | ⟨h, _⟩
          · exact h j (by rw [HIN.out, ← HN.out]; exact hj) ⟨hfj, ha⟩
          · cases h
        · have hlt2 : lt.size ≤ maxLen := by
            rcases LI.out with ⟨h, _⟩ | ⟨_, ⟨j, hj, hc, he⟩, _⟩
            · cases h
            · obtain ⟨d, hd⟩ : ∃ d, l[j]? = some d := ⟨_, List.getElem?_eq_getElem (by rw [HN.out, ← HIN.out]; exact hj)⟩
              have h1 := (HOK.out d (List.mem_iff_getElem?.2 ⟨j, hd⟩)).2.1
              have h2 : (bsL lt).length = d.text.length := by
                rw [← he]
                unfold nmb
                rw [hd]
                show (bsL (txt d.text)).length = _
                have := txt_size d.text
                show (txt d.text).data.toList.length = _
                rw [Array.length_toList]
                exact this
              have h3 : lt.size = (bsL lt).length := by show lt.data.size = lt.data.toList.length; rw [Array.length_toList]
              unfold maxLen
              omega
          have HLT2 := Lib.hid hlt2
          clear hlt2
          go_wp2_with (first
            | (at_builtin
               go_must (refine wpList_append_list rfl (.tmp 70) (.tmp 72) _ (by rfl) (eb + 1) (wr.heap.size + 1) 9 jS _ 1 16 Tryd.underlying39 I.out.1 I.out.2.1 I.out.2.2.1 I.out.2.2.2 rfl (by omega) (R := IsText) (l := L) (m := [lt]) (.slice oa k oc) (by rfl) (by exact RO6.out.alloc (.cells #[.string lt] 9)) (some ⟨wr.heap.size, 0, none⟩) 1 1 (by rfl) (SlR.new1 (w := wr) (e := 9) (g := wr.heap.size) rfl (x := [.string lt]) rfl (R := IsText) (y := lt) ⟨rfl, HLT2.out⟩) (k + 1) (by rw [HK.out]) (fun x y hx u hu => by rw [hx.1] at hu; simp at hu; subst hu; rfl) (by have := HK.out; unfold maxLen; simp at this ⊢; omega) (by have := HK.out; simp at this ⊢; omega) (by simp; omega) ?_)
               intro a7 c7 w7 hown hgr
               go_must (have E7 := Lib.hid ((E6.out.alloc (.cells #[.string lt] 9)).grown hgr (fun e => by have := (RO6.out.block eb e.symm).1; omega)))
               go_must (have B7 := Lib.hid (((B5.out.trans (BWO.out.mono B5.out.size)).alloc (by have := B5.out.size; have := BWO.out.size; omega) (.cells #[.string lt] 9)).grown hgr (by have := B5.out.size; have := BWO.out.size; simp; omega) (fun b hb => by have := (RO6.out.block b hb).1; have := HEB.out; omega)))
               have RO7 := Lib.hid hown
               clear hown hgr)
            | fail)
          go_roundw
          case rel =>
            refine ⟨L ++ [lt], Lib.hid ⟨RO7.out, ?_, E7.out, B7.out⟩⟩
            rcases LI.out with ⟨h, _⟩ | ⟨_, ⟨j, hj, hc, he⟩, hmin⟩
            · cases h
            · rw [List.map_append]
              refine LO.out.add ((FWH.out.pin _).2 ⟨j, by rw [HN.out, ← HIN.out]; exact hj, hc.1, he.symm⟩) (he ▸ hc.2) (fun z hz ha => ?_)
              obtain ⟨j2, hj2, hfj, rfl⟩ := (FWH.out.pin z).1 hz
              exact hmin j2 (by rw [HIN.out, ← HN.out]; exact hj2) ⟨hfj, ha⟩
          case measure => simp [rowLen]; omega
end Go.Proofs.YtidkbodmiegbkaaDoor
