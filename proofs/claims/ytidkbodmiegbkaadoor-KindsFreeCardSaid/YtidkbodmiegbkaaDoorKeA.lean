/- Chapter 09: the reference's Bound. -/
import Derived.Test.YtidkbodmiegbkaaDoorKdZ
namespace Go.Proofs.YtidkbodmiegbkaaDoor
set_option linter.unusedSimpArgs false
set_option linter.unusedVariables false
open Go.RowKit

theorem Und.step {l : List ND} {vs : List (List Nat)} {m : Nat} {t : Tr} (h : Und l vs m t) : (vs = [] ∧ upF l (m : Int) = (-1, 0)) ∨ ∃ (vs' : List (List Nat)) (p' k : Nat) (s' : List Nat) (t' : Tr) (j : Nat) (d : ND), Und l vs' p' t' ∧ p' < m ∧ upF l (m : Int) = ((p' : Int), (j : Int)) ∧ vs = vsK k s' vs' j ∧ l[p']? = some d ∧ d.kind = (k : Int) ∧ d.text = s' := by
  cases h with
  | root h1 h2 => exact .inl ⟨rfl, upF_root h1 h2⟩
  | @kid vs' p' k s' n ks j q u h1 h2 h3 =>
    have hin := places_in ks _ m (List.mem_iff_getElem?.2 ⟨j, h3⟩)
    exact .inr ⟨vs', p', k, s', _, j, _, h1, by omega, upF_kid h1 h3, rfl, (stands_node h1.stands).1, rfl, rfl⟩
set_option maxRecDepth 100000 in
set_option maxHeartbeats 8000000 in
theorem bound_any {l : List ND} {v : Value} (w w0 : World) (hs : SlR w0 w0.heap.size 4 (ND.Is w0 w0.heap.size) v l) (hok : ∀ d ∈ l, NdOk d) (hl : l.length ≤ 256) (hw : Below w0.heap.size w0 w) {vs : List (List Nat)} {p : Nat} {t : Tr} (hun : Und l vs p t) (s : List Nat) (hb : Bytes s) :
    Calls Tryd.prog 20 #[.agg #[v], .int .i64 (p : Int), .string (txt s)] w fun e w' => e = .returned (.bool (decide (s ∈ vs))) ∧ Below w.heap.size w w' := by
  obtain ⟨D, hD⟩ : ∃ z, decide (s ∈ vs) = z := ⟨_, rfl⟩
  rw [hD]
  obtain ⟨va, vc, rfl, _, _⟩ := hs.form
  have UP := Lib.hid (fun w1 (h1 : Below w0.heap.size w0 w1) a => up_any w1 w0 hs hl h1 a)
  obtain ⟨nl, hnl⟩ : ∃ x, l.length = x := ⟨_, rfl⟩
  rw [hnl] at hs hl UP ⊢
  have HS := Lib.hid hs
  have HW := Lib.hid hw
  have HNL := Lib.hid hnl
  have HOK := Lib.hid hok
  have HBS := Lib.hid hb
  have HU := Lib.hid (And.intro hun hD)
  have B0 : Hid (Blk (w.alloc (.cells #[.slice va nl vc] 24)) w.heap.size 24 #[.slice va nl vc]) := Lib.hid (Blk.new _ _ _)
  clear hs hw hnl hok hb hun hD
  go_enter Tryd.func20, Tryd.ntmps20
  go_wp2_with fail
  have e0 : (w.alloc (.cells #[.slice va nl vc] 24)).cell? ⟨w.heap.size, 0, none⟩ = some (.slice va nl vc) := B0.out.cell rfl
  have HB0 := Lib.hid ((Below.refl w.heap.size w).alloc (Nat.le_refl _) (.cells #[.slice va nl vc] 24))
  have HB6 := Lib.hid (HW.out.alloc HW.out.size (.cells #[.slice va nl vc] 24))
  obtain ⟨q, hq⟩ : ∃ q, w.heap.size = q := ⟨_, rfl⟩
  generalize hW1 : w.alloc (.cells #[.slice va nl vc] 24) = W1 at *
  rw [hq] at B0 e0 ⊢
  clear hW1
  go_loopw [1] (fun v1 wr => ∃ b : Int, -1 ≤ b ∧ v1 = .int .i64 b ∧ Hid (((b = -1 ∧ D = false) ∨ ∃ (m : Nat) (vs : List (List Nat)) (t : Tr), b = (m : Int) ∧ Und l vs m t ∧ decide (s ∈ vs) = D) ∧ Blk wr q 24 #[.slice va nl vc] ∧ Below w.heap.size w wr ∧ Below w0.heap.size w0 wr)) (fun v1 _ => (intOf v1 + 1).toNat)
  case atStart => exact ⟨p, by omega, rfl, Lib.hid ⟨.inr ⟨p, _, _, rfl, HU.out.1, HU.out.2⟩, B0.out, HB0.out, HB6.out⟩⟩
  case round =>
    obtain ⟨b, b1, rfl, hr⟩ := hrel
    have HR := Lib.hid hr.out.2
    have hc := hr.out.1
    clear hr
    have e1 : wr.cell? ⟨q, 0, none⟩ = some (.slice va nl vc) := HR.out.1.cell rfl
    have lq : q < wr.heap.size := HR.out.1.lt
    rcases hc with ⟨rfl, hDf⟩ | ⟨m, vs, t, rfl, hu, hD⟩
    · have HDF := Lib.hid hDf
      clear hDf
      go_wp2_with fail
      go_ret
      exact ⟨by rw [HDF.out]; try rfl, by first | exact HR.out.2.1 | (rw [← hq]; exact HR.out.2.1)⟩
    · have m0 : (0 : Int) ≤ (m : Int) := Int.natCast_nonneg _
      have d1 : decide ((0 : Int) ≤ (m : Int)) = true := by simp
      have U := Lib.hid (UP.out wr HR.out.2.2 (m : Int))
      rcases hu.step with ⟨rfl, hup⟩ | ⟨vs', p', k, s', t', j, d, h1, hpm, hup, rfl, hd, hk, hs'⟩
      · have hDf : D = false := by rw [← hD]; rfl
        have HDF := Lib.hid hDf
        rw [hup] at U
        clear hup hu hD hDf
        go_wp2_with (first
          | (go_at_call 28; go_must (refine U.out.mono ?_); rintro e w4 ⟨rfl, hb4⟩; go_must (have H4 := Lib.hid (And.intro (HR.out.1.below hb4 lq) (And.intro (HR.out.2.1.trans (hb4.mono HR.out.2.1.size)) (HR.out.2.2.trans (hb4.mono HR.out.2.2.size))))); clear hb4)
          | fail)
        go_roundw
        case rel => exact ⟨-1, by omega, rfl, Lib.hid ⟨.inl ⟨rfl, HDF.out⟩, H4.out.1, H4.out.2.1, H4.out.2.2⟩⟩
        case measure => simp [intOf]
      · rw [hup] at U
        obtain ⟨bb, off, x, rfl, hbB, hxl, ⟨kv, rfl, hkv⟩, hx⟩ := HS.out.at_ hd
        have x0 := hx 0 _ rfl
        have x1 := hx 1 _ rfl
        simp only [Nat.add_zero] at x0
        have hpl : p' < l.length := (List.getElem?_eq_some_iff.1 hd).1
        have hokd := HOK.out d (List.mem_iff_getElem?.2 ⟨p', hd⟩)
        have htx := txt_eq hokd.1 HBS.out
        rw [hk] at x0
        rw [hs'] at x1 htx
        have HX : Hid (∀ w4, Below w0.heap.size w0 w4 → w4.cell? ⟨bb, off + p' * 4, none⟩ = some (.int .i64 (k : Int)) ∧ w4.cell? ⟨bb, off + p' * 4 + 1, none⟩ = some (.string (txt s'))) := Lib.hid (fun w4 h4 => ⟨(h4.cell (p := ⟨bb, off + p' * 4, none⟩) hbB).trans x0, (h4.cell (p := ⟨bb, off + p' * 4 + 1, none⟩) hbB).trans x1⟩)
        have H1 := Lib.hid (And.intro h1 hD)
        have p0 : (0 : Int) ≤ (p' : Int) := Int.natCast_nonneg _
        have p1 : (p' : Int) < (nl : Int) := by rw [HNL.out] at hpl; omega
        have q0 : decide ((0 : Int) ≤ (p' : Int)) = true := by simp
        have hpm2 : (p' : Int) < (m : Int) := by omega
        clear hup hu hD hd hk hs' hkv hx hxl x0 x1 hpl hokd h1 hpm
        have key : ∀ (R : Bool), (decide (s ∈ vsK k s' vs' j) = R) → True := fun _ _ => trivial
        by_cases hj : j = 1
        · have ej : ((j : Int) == 1) = true := by rw [hj]; rfl
          by_cases hk1 : 31 ≤ k
          · have ek1 : decide ((31 : Int) ≤ (k : Int)) = true := by simp; omega
            by_cases hk2 : k ≤ 34
            · have ek2 : decide ((k : Int) ≤ 34) = true := by simp; omega
              by_cases hts : s' = s
              · have et : ((txt s').toList == (txt s).toList) = true := by rw [htx]; exact decide_eq_true hts
                have hDt : D = true := by rw [← H1.out.2]; unfold vsK; rw [if_pos ⟨hj, hk1, hk2⟩, hts]; simp
                have HDT := Lib.hid hDt
                clear hj hk1 hk2 hts htx hDt key
                go_wp2_with (first
                  | (go_at_call 28; go_must (refine U.out.mono ?_); rintro e w4 ⟨rfl, hb4⟩; go_must (have H4 := Lib.hid (And.intro (HR.out.1.below hb4 lq) (And.intro (HR.out.2.1.trans (hb4.mono HR.out.2.1.size)) (HR.out.2.2.trans (hb4.mono HR.out.2.2.size))))); go_must (have y0 := (HX.out w4 H4.out.2.2).1); go_must (have y1 := (HX.out w4 H4.out.2.2).2); go_must (have y2 : w4.cell? ⟨q, 0, none⟩ = _ := H4.out.1.cell rfl); clear hb4)
                  | fail)
                go_ret
                exact ⟨by rw [HDT.out]; try rfl, by first | exact H4.out.2.1 | (rw [← hq]; exact H4.out.2.1)⟩
              · have et : ((txt s').toList == (txt s).toList) = false := by rw [htx]; exact decide_eq_false hts
                have hDt : decide (s ∈ vs') = D := by rw [← H1.out.2]; unfold vsK; rw [if_pos ⟨hj, hk1, hk2⟩]; have : ¬ s = s' := fun e => hts e.symm; simp [this]
                have HDT := Lib.hid hDt
                clear hj hk1 hk2 hts htx hDt key
                go_wp2_with (first
                  | (go_at_call 28; go_must (refine U.out.mono ?_); rintro e w4 ⟨rfl, hb4⟩; go_must (have H4 := Lib.hid (And.intro (HR.out.1.below hb4 lq) (And.intro (HR.out.2.1.trans (hb4.mono HR.out.2.1.size)) (HR.out.2.2.trans (hb4.mono HR.out.2.2.size))))); go_must (have y0 := (HX.out w4 H4.out.2.2).1); go_must (have y1 := (HX.out w4 H4.out.2.2).2); go_must (have y2 : w4.cell? ⟨q, 0, none⟩ = _ := H4.out.1.cell rfl); clear hb4)
                  | fail)
                go_roundw
                case rel => exact ⟨(p' : Int), by omega, rfl, Lib.hid ⟨.inr ⟨p', vs', _, rfl, H1.out.1, HDT.out⟩, H4.out.1, H4.out.2.1, H4.out.2.2⟩⟩
                case measure => simp [intOf]; omega
            · have ek2 : decide ((k : Int) ≤ 34) = false := by simp; omega
              have hDt : decide (s ∈ vs') = D := by rw [← H1.out.2]; unfold vsK; rw [if_neg (by omega)]
              have HDT := Lib.hid hDt
              clear hDt key htx
              go_wp2_with (first
                | (go_at_call 28; go_must (refine U.out.mono ?_); rintro e w4 ⟨rfl, hb4⟩; go_must (have H4 := Lib.hid (And.intro (HR.out.1.below hb4 lq) (And.intro (HR.out.2.1.trans (hb4.mono HR.out.2.1.size)) (HR.out.2.2.trans (hb4.mono HR.out.2.2.size))))); go_must (have y0 := (HX.out w4 H4.out.2.2).1); go_must (have y1 := (HX.out w4 H4.out.2.2).2); go_must (have y2 : w4.cell? ⟨q, 0, none⟩ = _ := H4.out.1.cell rfl); clear hb4)
                | fail)
              go_roundw
              case rel => exact ⟨(p' : Int), by omega, rfl, Lib.hid ⟨.inr ⟨p', vs', _, rfl, H1.out.1, HDT.out⟩, H4.out.1, H4.out.2.1, H4.out.2.2⟩⟩
              case measure => simp [intOf]; omega
          · have ek1 : decide ((31 : Int) ≤ (k : Int)) = false := by simp; omega
            have hDt : decide (s ∈ vs') = D := by rw [← H1.out.2]; unfold vsK; rw [if_neg (by omega)]
            have HDT := Lib.hid hDt
            clear hDt key htx
            go_wp2_with (first
              | (go_at_call 28; go_must (refine U.out.mono ?_); rintro e w4 ⟨rfl, hb4⟩; go_must (have H4 := Lib.hid (And.intro (HR.out.1.below hb4 lq) (And.intro (HR.out.2.1.trans (hb4.mono HR.out.2.1.size)) (HR.out.2.2.trans (hb4.mono HR.out.2.2.size))))); go_must (have y0 := (HX.out w4 H4.out.2.2).1); go_must (have y1 := (HX.out w4 H4.out.2.2).2); go_must (have y2 : w4.cell? ⟨q, 0, none⟩ = _ := H4.out.1.cell rfl); clear hb4)
              | fail)
            go_roundw
            case rel => exact ⟨(p' : Int), by omega, rfl, Lib.hid ⟨.inr ⟨p', vs', _, rfl, H1.out.1, HDT.out⟩, H4.out.1, H4.out.2.1, H4.out.2.2⟩⟩
            case measure => simp [intOf]; omega
        · have ej : ((j : Int) == 1) = false := by rw [beq_eq_false_iff_ne]; omega
          have hDt : decide (s ∈ vs') = D := by rw [← H1.out.2]; unfold vsK; rw [if_neg (by omega)]
          have HDT := Lib.hid hDt
          clear hDt key htx
          go_wp2_with (first
            | (go_at_call 28; go_must (refine U.out.mono ?_); rintro e w4 ⟨rfl, hb4⟩; go_must (have H4 := Lib.hid (And.intro (HR.out.1.below hb4 lq) (And.intro (HR.out.2.1.trans (hb4.mono HR.out.2.1.size)) (HR.out.2.2.trans (hb4.mono HR.out.2.2.size))))); go_must (have y0 := (HX.out w4 H4.out.2.2).1); go_must (have y1 := (HX.out w4 H4.out.2.2).2); go_must (have y2 : w4.cell? ⟨q, 0, none⟩ = _ := H4.out.1.cell rfl); clear hb4)
            | fail)
          go_roundw
          case rel => exact ⟨(p' : Int), by omega, rfl, Lib.hid ⟨.inr ⟨p', vs', _, rfl, H1.out.1, HDT.out⟩, H4.out.1, H4.out.2.1, H4.out.2.2⟩⟩
          case measure => simp [intOf]; omega
end Go.Proofs.YtidkbodmiegbkaaDoor
