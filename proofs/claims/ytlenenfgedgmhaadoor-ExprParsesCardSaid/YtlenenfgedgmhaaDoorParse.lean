/- expr.Parse: a text is read as the grammar says. -/
import Derived.Test.YtlenenfgedgmhaaDoorGood
import Derived.Deep.QuietTactic
import Derived.BigQuiet
import Derived.RegionTactic
import Derived.BigRegion
namespace Go.Proofs.YtlenenfgedgmhaaDoor
set_option linter.unusedSimpArgs false
set_option linter.unusedVariables false
open Go.RowKit

/-- a node that is read -/
def ENode.Is (w : World) (B : Nat) (x : List Value) (d : EN) : Prop := ∃ kv, x = [.int .i64 (d.kind : Int), .string (txt d.text), .int .i64 d.num, kv] ∧ SlR w B 1 IsNat kv d.kids
theorem EL.read {X : World} {B : Nat} {v : Value} {es : List (EN × Value)} (h : EL X B v es) : SlR X X.heap.size 4 (ENode.Is X X.heap.size) v (es.map (·.1)) := by
  obtain ⟨a, c, rfl, h1, h2, h3⟩ := h.main.read (by omega)
  refine ⟨a, c, by rw [List.length_map], by rw [List.length_map]; exact h1, h2, fun hl => ?_⟩
  rw [List.length_map] at hl
  obtain ⟨b, off, hb, hlt, hat⟩ := h3 hl
  refine ⟨b, off, hb, hlt, fun i y hy => ?_⟩
  rw [List.getElem?_map] at hy
  cases he : es[i]? with
  | none => rw [he] at hy; cases hy
  | some p =>
    rw [he] at hy
    injection hy with hy
    subst hy
    obtain ⟨x, hx, ⟨hR, _⟩, hc⟩ := hat i p he
    exact ⟨x, hx, ⟨p.2, hR, (h.kids i p he).read (by omega)⟩, hc⟩
/-- what Parse comes to -/
def ParseIs (w : World) (R : List EN × Nat × Nat) (e : Ending) (w' : World) : Prop :=
  ∃ v, e = .returned (.tuple #[.agg #[v], .int .i64 (R.2.1 : Int), .int .i64 (R.2.2 : Int)]) ∧ SlR w' w'.heap.size 4 (ENode.Is w' w'.heap.size) v R.1 ∧ Below w.heap.size w w'
set_option maxRecDepth 100000 in
set_option maxHeartbeats 8000000 in
theorem parse_any (s : ByteArray) (hs : s.size ≤ maxLen) (w : World) (hm : Marks w) (hg : Signs w) : Calls Tryd.prog 9 #[.string s] w (ParseIs w (parseN (bs s))) := by
  have hmf : ∀ (fn : Fn) (first cap : Array Value) (w : World), (Instr.makeFunc fn first cap).run Tryd.prog w = .ok (.func fn first cap) w := fun _ _ _ _ => rfl
  have HS := Lib.hid (fun W (hW : Below w.heap.size w W) => scan_any s hs W (hm.below hW))
  have HG := Lib.hid hg
  have h1w : 1 < w.heap.size := by
    obtain ⟨t, fr, h⟩ := signs_block hg
    rcases Nat.lt_or_ge 1 w.heap.size with h0 | h0
    · exact h0
    · rw [Array.getElem?_eq_none h0] at h; cases h
  have B0 : Hid (Below w.heap.size w (((w.alloc (.cells #[.slice none 0 0] 24)).alloc (.cells #[.int .i64 0] 3)).alloc (.cells #[.int .i64 0] 25))) := Lib.hid ((((Below.refl _ _).alloc (Nat.le_refl _) _).alloc (by simp) _).alloc (by simp; omega) _)
  have X0 := Lib.hid (Bx.new w)
  obtain ⟨R, hR⟩ : ∃ R, scanN (bs s) = R := ⟨_, rfl⟩
  by_cases he : R.2.2 = 0
  · have hgd := scan_good (bs_bytes s) (by rw [hR]; exact he)
    have hpl := scan_place (l := bs s)
    rw [hR] at hgd hpl HS
    obtain ⟨toks, at_, err⟩ := R
    simp only at he hgd hpl
    subst he
    obtain ⟨hgood, hfew, hs4⟩ := hgd
    obtain ⟨R2, hR2⟩ : ∃ R2, parseN (bs s) = R2 := ⟨_, rfl⟩
    rw [hR2]
    obtain ⟨sz, hsz⟩ : ∃ z, s.size = z := ⟨_, rfl⟩
    have hbl : (bs s).length = sz := by rw [bs_len, hsz]
    have HGD := Lib.hid hgood
    have HPL := Lib.hid hpl
    have HFW := Lib.hid hfew
    have hsz5 : (sz : Int) ≤ 5000 := by rw [hbl] at hs4; omega
    have HSZ := Lib.hid hsz
    -- what the grammar says of it
    have hpn : ∀ r, pL toks (12 * toks.length + 10) 1 0 = r → R2 = (match r.bind (fun t i => if i < toks.length then PR.no i else .ok t i) with
        | .ok t _ => if 256 < t.size ∨ 32 < t.deep then ([], 0, 4) else (t.flat 0, 0, 0)
        | .no i => ([], (match toks[i]? with | some x => x.place.toNat | none => sz), 80)
        | .out => ([], 0, 0)) := by
      intro r hr
      rw [← hR2, ← hr]
      unfold parseN parseT
      rw [hR, if_neg (by simp)]
      simp only [hbl]
      rfl
    have HPN := Lib.hid hpn
    obtain ⟨r, hrr⟩ : ∃ r, pL toks (12 * toks.length + 10) 1 0 = r := ⟨_, rfl⟩
    have hin := parse_told toks
    rw [hrr] at hin
    have HR2 := Lib.hid (hpn r hrr)
    have HT : Hid (∀ (q : Nat) (a : Option Addr) (c : Nat) (X : World), PSt q a c sz toks 0 X → Calls Tryd.prog 23 #[.pointer (some ⟨q, 0, none⟩)] X (Reads q a c sz toks X r)) := Lib.hid (fun q a c X h => by rw [← hrr]; exact p_top h)
    clear hm hg hR hgood hpl hfew hs4 hR2 hbl hpn HPN hrr
    -- the state in which the parser begins
    have HP : Hid (∀ (w1 : World) (a : Option Addr) (n c : Nat), Own1 w1 (((w.alloc (.cells #[.slice none 0 0] 24)).alloc (.cells #[.int .i64 0] 3)).alloc (.cells #[.int .i64 0] 25)).heap.size 82 4 Tok.Is (.slice a n c) toks → Below w.heap.size w w1 → Bx w1 w.heap.size (.slice none 0 0) 0 0 →
        ∀ X1, X1 = ((w1.setCell ⟨w.heap.size + 1, 0, none⟩ (.int .i64 (at_ : Int))).setCell ⟨w.heap.size + 1 + 1, 0, none⟩ (.int .i64 0)).alloc (.cells #[.slice a n c, .int .i64 0, .int .i64 (sz : Int)] 59) →
        n = toks.length ∧ PSt w1.heap.size a c sz toks 0 X1 ∧ Bx X1 w.heap.size (.slice none 0 0) at_ 0 ∧ Below w.heap.size w X1 ∧ w.heap.size + 2 < w1.heap.size) := Lib.hid (fun w1 a n c hO hB hX X1 hX1 => by
      subst hX1
      obtain ⟨a', c', hform⟩ := hO.form
      injection hform with _ e2 _
      subst e2
      have h2 := hX.set2 (at_ : Int) 0
      have lb := hX.err.lt
      have hO2 : Own1 ((w1.setCell ⟨w.heap.size + 1, 0, none⟩ (.int .i64 (at_ : Int))).setCell ⟨w.heap.size + 1 + 1, 0, none⟩ (.int .i64 0)) (((w.alloc (.cells #[.slice none 0 0] 24)).alloc (.cells #[.int .i64 0] 3)).alloc (.cells #[.int .i64 0] 25)).heap.size 82 4 Tok.Is (.slice a toks.length c) toks := (hO.setFar (by simp) _).setFar (by simp) _
      have hsz2 : ((w1.setCell ⟨w.heap.size + 1, 0, none⟩ (.int .i64 (at_ : Int))).setCell ⟨w.heap.size + 1 + 1, 0, none⟩ (.int .i64 0)).heap.size = w1.heap.size := by rw [World.size_setCell, World.size_setCell]
      have hR := hO2.read (by omega)
      rw [hsz2] at hR
      have ba := (Below.refl w1.heap.size ((w1.setCell ⟨w.heap.size + 1, 0, none⟩ (.int .i64 (at_ : Int))).setCell ⟨w.heap.size + 1 + 1, 0, none⟩ (.int .i64 0))).alloc (Nat.le_of_eq hsz2.symm) (.cells #[.slice a toks.length c, .int .i64 0, .int .i64 (sz : Int)] 59)
      have bw := (hB.trans h2.2).trans (ba.mono hB.size)
      refine ⟨rfl, ⟨hR.below ba, Blk.new_ hsz2.symm _ _, by omega, ?_, Nat.zero_le _, by have := HFW.out; omega, HGD.out⟩, h2.1.below ba lb, bw, lb⟩
      exact HG.out.of_block (bw.block 1 h1w))
    cases r with
    | out => exact absurd hin (by simp [PR.In])
    | no i =>
      have hres : R2 = ([], (match toks[i]? with | some x => x.place.toNat | none => sz), 80) := HR2.out
      obtain ⟨k, hk⟩ : ∃ k : Nat, placeAt toks sz i = (k : Int) ∧ (match toks[i]? with | some x => x.place.toNat | none => sz) = k := by
        unfold placeAt
        cases hx : toks[i]? with
        | none => exact ⟨sz, rfl, rfl⟩
        | some x =>
          have h0 := HPL.out x (List.mem_iff_getElem?.2 ⟨i, hx⟩)
          exact ⟨x.place.toNat, by simp only; omega, rfl⟩
      rw [hk.2] at hres
      subst hres
      have HK := Lib.hid hk.1
      clear hk hin HR2
      go_enter_defers Tryd.func9, Tryd.ntmps9
      go_wp2_with (first
        | (go_at_call 21; refine (HS.out _ B0.out).mono ?_; rintro e w1 ⟨a, n, c, rfl, hO, hB⟩; have X1 := Lib.hid (X0.out.below hB (by simp)); have B1 : Hid (Below w.heap.size w w1) := Lib.hid (B0.out.trans (hB.mono B0.out.size)); have O1 := Lib.hid hO; obtain ⟨c0, c1, c2, z0, z1, z2, lb⟩ := X1.out.cells; clear hO hB))
      generalize hwq : World.alloc (World.setCell (World.setCell _ _ _) _ _) _ = W2
      obtain ⟨rfl, hp, hx, hb, lbw⟩ := HP.out w1 a n c O1.out B1.out X1.out W2 (by rw [← hwq])
      clear hwq c0 c1 c2 z0 z1 z2 lb O1 X1 B0 X0
      have P2 := Lib.hid hp
      have X2 := Lib.hid hx
      have B2 := Lib.hid hb
      have LBW := Lib.hid lbw
      clear hp hx hb lbw

      refine (HT.out _ _ _ _ P2.out).mono ?_
      rintro e w5 ⟨rfl, h5⟩
      have q2 : w.heap.size + 2 < w1.heap.size := LBW.out
      have X5 := X2.out.below h5.low q2
      have B5 : Below w.heap.size w w5 := B2.out.trans (h5.low.mono (by omega))
      rw [HK.out]
      clear P2 X2 B2 HT HP HS HPL HGD
      refine leaves_cons (f := 22) (args := #[.pointer (some ⟨w.heap.size, 0, none⟩), .pointer (some ⟨w.heap.size + 1, 0, none⟩), .pointer (some ⟨w.heap.size + 1 + 1, 0, none⟩)]) (by simp) (by simp [go_sem]) ?_
      refine (catch_wrong w.heap.size (k : Int) _ _ [] w5 _ ⟨_, _, _, rfl⟩ X5).mono ?_
      rintro e u' wf ⟨rfl, rfl, hBf, hKf⟩
      obtain ⟨c0, c1, c2, z0, z1, z2, lb⟩ := hKf.cells
      have c2' : wf.cell? ⟨w.heap.size + 1 + 1, 0, none⟩ = some (.int .i64 80) := c2
      have HF : Hid (Below w.heap.size w wf) := Lib.hid (B5.trans hBf)
      clear c2 hBf hKf X5 B5 z0 z1 z2 lb
      simp [Leaves, settle, results, Tryd.results9, go_sem, c0, c1, c2']
      exact ⟨.slice none 0 0, rfl, SlR.nil_ _ (by unfold maxLen; omega) _, HF.out⟩
    | ok t j =>
      obtain ⟨tl, htl⟩ : ∃ z, toks.length = z := ⟨_, rfl⟩
      have Htl := Lib.hid htl
      simp only [PR.In] at hin
      obtain ⟨hin1, hin2, hin3⟩ := hin
      have hfew5 := HFW.out
      rw [htl] at hin2 hfew5
      have j5 : (j : Int) ≤ 5000 := by omega
      have tl63 : tl ≤ 9223372036854775807 := by omega
      clear htl
      by_cases hlt : j < tl
      · obtain ⟨x, hx⟩ := get_some Htl.out hlt
        have hplx := HPL.out x (List.mem_iff_getElem?.2 ⟨j, hx⟩)
        obtain ⟨k, hk⟩ : ∃ k : Nat, x.place = (k : Int) := ⟨x.place.toNat, by omega⟩
        have hres : R2 = ([], k, 80) := by
          have h0 := HR2.out
          simp only [PR.bind] at h0
          rw [if_pos (by rw [Htl.out]; exact hlt)] at h0
          simp only [hx, hk, Int.toNat_natCast] at h0
          exact h0
        subst hres
        have HK : Hid (placeAt toks sz j = (k : Int)) := Lib.hid (by unfold placeAt; rw [hx]; exact hk)
        have dlt : decide (j < tl) = true := by simpa using hlt
        clear hx hplx hk hlt HR2
        go_enter_defers Tryd.func9, Tryd.ntmps9
        go_wp2_with (first
          | (go_at_call 21; refine (HS.out _ B0.out).mono ?_; rintro e w1 ⟨a, n, c, rfl, hO, hB⟩; have X1 := Lib.hid (X0.out.below hB (by simp)); have B1 : Hid (Below w.heap.size w w1) := Lib.hid (B0.out.trans (hB.mono B0.out.size)); have O1 := Lib.hid hO; obtain ⟨c0, c1, c2, z0, z1, z2, lb⟩ := X1.out.cells; clear hO hB))
        generalize hwq : World.alloc (World.setCell (World.setCell _ _ _) _ _) _ = W2
        obtain ⟨rfl, hp, hx, hb, lbw⟩ := HP.out w1 a n c O1.out B1.out X1.out W2 (by rw [← hwq])
        clear hwq c0 c1 c2 z0 z1 z2 lb O1 X1 B0 X0
        have P2 := Lib.hid hp
        have X2 := Lib.hid hx
        have B2 := Lib.hid hb
        have LBW := Lib.hid lbw
        clear hp hx hb lbw
        refine (HT.out _ _ _ _ P2.out).mono ?_
        rintro e w5 h5
        obtain ⟨g, rfl, hT5, hM5, hP5⟩ := h5.get
        have T5 := Lib.hid hT5
        have M5 := Lib.hid hM5
        have P5 := Lib.hid hP5
        obtain ⟨g0, g1, g2, g3, g4⟩ := hP5.facts
        rw [Htl.out] at g0 ⊢
        have X5 := Lib.hid (X2.out.below hM5.low LBW.out)
        have B5 : Hid (Below w.heap.size w w5) := Lib.hid (B2.out.trans (hM5.low.mono (by have := LBW.out; omega)))
        clear h5 hT5 hM5 hP5 g2 g3 X2 B2 P2
        go_wp2_with fail
        go_quiet (fail)
        rename_i nq
        have Q6 : Hid (Quiet w5 (w5.drewN nq)) := Lib.hid ⟨nq, rfl⟩
        go_wp2_with (first
          | (go_at_call 24; refine (p_give (P5.out.quiet Q6.out)).mono ?_; rintro e w6 ⟨rfl, q6⟩; have Q7 := Lib.hid (Q6.out.trans q6); clear q6))
        have lq5 : w.heap.size + 2 < w5.heap.size := by have := LBW.out; have := M5.out.low.size; have := P5.out.box.lt; omega
        have X6 := X5.out.below (Q7.out.below w5.heap.size) lq5
        have B6 : Below w.heap.size w w6 := B5.out.trans (Q7.out.below _)
        rw [HK.out]
        refine leaves_cons (f := 22) (args := #[.pointer (some ⟨w.heap.size, 0, none⟩), .pointer (some ⟨w.heap.size + 1, 0, none⟩), .pointer (some ⟨w.heap.size + 1 + 1, 0, none⟩)]) (by simp) (by simp [go_sem]) ?_
        refine (catch_wrong w.heap.size (k : Int) _ _ [] w6 _ ⟨_, _, _, rfl⟩ X6).mono ?_
        rintro e u' wf ⟨rfl, rfl, hBf, hKf⟩
        obtain ⟨c0, c1, c2, z0, z1, z2, lb⟩ := hKf.cells
        have c2' : wf.cell? ⟨w.heap.size + 1 + 1, 0, none⟩ = some (.int .i64 80) := c2
        have HF : Hid (Below w.heap.size w wf) := Lib.hid (B6.trans hBf)
        clear c2 hBf hKf X6 B6 z0 z1 z2 lb g0 g1 g4 HT HP HS HPL HGD
        simp [Leaves, settle, results, Tryd.results9, go_sem, c0, c1, c2']
        exact ⟨.slice none 0 0, rfl, SlR.nil_ _ (by unfold maxLen; omega) _, HF.out⟩
      · have hjt : j = tl := by omega
        subst hjt
        clear hlt
        have hres : R2 = if 256 < t.size ∨ 32 < t.deep then ([], 0, 4) else (t.flat 0, 0, 0) := by
          have h0 := HR2.out
          simp only [PR.bind] at h0
          rw [if_neg (by rw [Htl.out]; omega)] at h0
          exact h0
        have dlt : decide (j < j) = false := by simp
        have HRES := Lib.hid hres
        have hsz5 : t.size ≤ 5000 := by omega
        have hdp5 : t.deep ≤ 5000 := by have := deep_le t; omega
        have HTS := Lib.hid hsz5
        clear hres HR2
        go_enter_defers Tryd.func9, Tryd.ntmps9
        go_wp2_with (first
          | (go_at_call 21; refine (HS.out _ B0.out).mono ?_; rintro e w1 ⟨a, n, c, rfl, hO, hB⟩; have X1 := Lib.hid (X0.out.below hB (by simp)); have B1 : Hid (Below w.heap.size w w1) := Lib.hid (B0.out.trans (hB.mono B0.out.size)); have O1 := Lib.hid hO; obtain ⟨c0, c1, c2, z0, z1, z2, lb⟩ := X1.out.cells; clear hO hB))
        generalize hwq : World.alloc (World.setCell (World.setCell _ _ _) _ _) _ = W2
        obtain ⟨rfl, hp, hx, hb, lbw⟩ := HP.out w1 a n c O1.out B1.out X1.out W2 (by rw [← hwq])
        clear hwq c0 c1 c2 z0 z1 z2 lb O1 X1 B0 X0
        have P2 := Lib.hid hp
        have X2 := Lib.hid hx
        have B2 := Lib.hid hb
        have LBW := Lib.hid lbw
        clear hp hx hb lbw
        refine (HT.out _ _ _ _ P2.out).mono ?_
        rintro e w5 h5
        obtain ⟨g, rfl, hT5, hM5, hP5⟩ := h5.get
        have T5 := Lib.hid hT5
        have M5 := Lib.hid hM5
        have P5 := Lib.hid hP5
        obtain ⟨g0, g1, g2, g3, g4⟩ := hP5.facts
        rw [Htl.out] at g0 ⊢
        have X5 := Lib.hid (X2.out.below hM5.low LBW.out)
        have B5 : Hid (Below w.heap.size w w5) := Lib.hid (B2.out.trans (hM5.low.mono (by have := LBW.out; omega)))
        clear h5 hT5 hM5 hP5 g2 g3 X2 B2 P2
        go_wp2_with fail
        go_quiet (fail)
        rename_i nq
        have Q6 : Hid (Quiet w5 (w5.drewN nq)) := Lib.hid ⟨nq, rfl⟩
        have HFL := Lib.hid (p_flat _ w5 t.size t g (w5.drewN nq) (.slice none 0 0) [] (Nat.le_refl _) T5.out (Q6.out.below _) (EL.nil _ _) (by simpa using HTS.out))
        have LQ5 : Hid (w.heap.size + 2 < w5.heap.size) := Lib.hid (by have := LBW.out; have := M5.out.low.size; have := P5.out.box.lt; omega)
        obtain ⟨dp, hdp⟩ : ∃ z, t.deep = z := ⟨_, rfl⟩
        obtain ⟨n6, hn6⟩ : ∃ z, t.size = z := ⟨_, rfl⟩
        rw [hdp, hn6] at HRES
        rw [hdp] at hdp5
        rw [hn6] at hsz5
        have HDP := Lib.hid hdp
        have HN6 := Lib.hid hn6
        clear hdp hn6 g0 g1 g4 HTS
        go_wp2_with (first
          | (go_at_call 25; refine HFL.out.mono ?_; rintro e w6 ⟨v6, es6, rfl, hE6, hm6, hB6⟩; rw [List.nil_append] at hE6; obtain ⟨a6, c6, rfl⟩ := hE6.main.form; have hl6 : es6.length = n6 := by have := congrArg List.length hm6; rw [List.length_map, trFlat_len, HN6.out] at this; exact this
             rw [hl6] at hE6 ⊢; rw [HDP.out]; have E6 := Lib.hid hE6; have HM6 : Hid (es6.map (·.1) = t.flat 0) := Lib.hid hm6; have hx6 := (X5.out.below (Q6.out.below w5.heap.size) LQ5.out).below hB6 LQ5.out; have X6 := Lib.hid hx6; have B6 : Hid (Below w.heap.size w w6) := Lib.hid ((B5.out.trans (Q6.out.below _)).trans (hB6.mono (by have := LQ5.out; omega))); obtain ⟨y0, y1, y2', x0, x1, x2', ly2'⟩ := hx6.cells; have y2 : w6.cell? ⟨w.heap.size + 1 + 1, 0, none⟩ = some (.int .i64 0) := y2'; have x2 : w6.frozen? ⟨w.heap.size + 1 + 1, 0, none⟩ = false := x2'; have ly2 : w.heap.size + 1 + 1 < w6.heap.size := ly2'; have ly1 : w.heap.size + 1 < w6.heap.size := by omega
             have ly : w.heap.size < w6.heap.size := by omega
             clear hE6 hm6 hx6 hB6 hl6 y2' x2' ly2'))
        · have hr := HRES.out
          rw [if_pos (by omega)] at hr
          subst hr
          generalize hwq : World.setCell (World.setCell (World.setCell _ _ _) _ _) _ _ = W7
          have hs7 := X6.out.set (.slice none 0 0) 0 4
          have h7 : Bx W7 w.heap.size (.slice none 0 0) 0 4 ∧ Below w.heap.size w6 W7 := by rw [← hwq]; exact hs7
          have E7 : EL W7 w5.heap.size (.slice a6 n6 c6) es6 := by
            rw [← hwq]
            have far : ∀ (p : Addr) (u : Value) (Y : World), p.block < w5.heap.size → EL Y w5.heap.size (.slice a6 n6 c6) es6 → EL (Y.setCell p u) w5.heap.size (.slice a6 n6 c6) es6 := fun p u Y hp h => ⟨h.main.setFar hp u, fun i x hx => (h.kids i x hx).setFar hp u, h.apart⟩
            exact far _ _ _ (by show w.heap.size + 2 < _; exact LQ5.out) (far _ _ _ (by show w.heap.size + 1 < _; have := LQ5.out; omega) (far _ _ _ (by show w.heap.size < _; have := LQ5.out; omega) E6.out))
          have B7 : Hid (Below w.heap.size w W7) := Lib.hid (B6.out.trans h7.2)
          have hrd := E7.read
          rw [HM6.out] at hrd
          obtain ⟨c0, c1, c2, z0, z1, z2, lb⟩ := h7.1.cells
          have c2' : W7.cell? ⟨w.heap.size + 1 + 1, 0, none⟩ = some (.int .i64 4) := c2
          clear hwq hs7 c2 z0 z1 z2 lb h7 y0 y1 y2 x0 x1 x2 ly ly1 ly2
          refine leaves_cons (f := 22) (args := #[.pointer (some ⟨w.heap.size, 0, none⟩), .pointer (some ⟨w.heap.size + 1, 0, none⟩), .pointer (some ⟨w.heap.size + 1 + 1, 0, none⟩)]) (by simp) (by simp [go_sem]) ?_
          refine (catch_idle _ _ _ _).mono ?_
          rintro e u' wf ⟨rfl, rfl, rfl⟩
          simp [Leaves, settle, results, Tryd.results9, go_sem, c0, c1, c2']
          exact ⟨(.slice none 0 0), rfl, SlR.nil_ _ (by unfold maxLen; omega) _, B7.out⟩
        · have hr := HRES.out
          rw [if_neg (by omega)] at hr
          subst hr
          generalize hwq : World.setCell (World.setCell (World.setCell _ _ _) _ _) _ _ = W7
          have hs7 := X6.out.set (.slice a6 n6 c6) 0 0
          have h7 : Bx W7 w.heap.size (.slice a6 n6 c6) 0 0 ∧ Below w.heap.size w6 W7 := by rw [← hwq]; exact hs7
          have E7 : EL W7 w5.heap.size (.slice a6 n6 c6) es6 := by
            rw [← hwq]
            have far : ∀ (p : Addr) (u : Value) (Y : World), p.block < w5.heap.size → EL Y w5.heap.size (.slice a6 n6 c6) es6 → EL (Y.setCell p u) w5.heap.size (.slice a6 n6 c6) es6 := fun p u Y hp h => ⟨h.main.setFar hp u, fun i x hx => (h.kids i x hx).setFar hp u, h.apart⟩
            exact far _ _ _ (by show w.heap.size + 2 < _; exact LQ5.out) (far _ _ _ (by show w.heap.size + 1 < _; have := LQ5.out; omega) (far _ _ _ (by show w.heap.size < _; have := LQ5.out; omega) E6.out))
          have B7 : Hid (Below w.heap.size w W7) := Lib.hid (B6.out.trans h7.2)
          have hrd := E7.read
          rw [HM6.out] at hrd
          obtain ⟨c0, c1, c2, z0, z1, z2, lb⟩ := h7.1.cells
          have c2' : W7.cell? ⟨w.heap.size + 1 + 1, 0, none⟩ = some (.int .i64 0) := c2
          clear hwq hs7 c2 z0 z1 z2 lb h7 y0 y1 y2 x0 x1 x2 ly ly1 ly2
          refine leaves_cons (f := 22) (args := #[.pointer (some ⟨w.heap.size, 0, none⟩), .pointer (some ⟨w.heap.size + 1, 0, none⟩), .pointer (some ⟨w.heap.size + 1 + 1, 0, none⟩)]) (by simp) (by simp [go_sem]) ?_
          refine (catch_idle _ _ _ _).mono ?_
          rintro e u' wf ⟨rfl, rfl, rfl⟩
          simp [Leaves, settle, results, Tryd.results9, go_sem, c0, c1, c2']
          exact ⟨(.slice a6 n6 c6), rfl, hrd, B7.out⟩
        · have hr := HRES.out
          rw [if_pos (by omega)] at hr
          subst hr
          generalize hwq : World.setCell (World.setCell (World.setCell _ _ _) _ _) _ _ = W7
          have hs7 := X6.out.set (.slice none 0 0) 0 4
          have h7 : Bx W7 w.heap.size (.slice none 0 0) 0 4 ∧ Below w.heap.size w6 W7 := by rw [← hwq]; exact hs7
          have E7 : EL W7 w5.heap.size (.slice a6 n6 c6) es6 := by
            rw [← hwq]
            have far : ∀ (p : Addr) (u : Value) (Y : World), p.block < w5.heap.size → EL Y w5.heap.size (.slice a6 n6 c6) es6 → EL (Y.setCell p u) w5.heap.size (.slice a6 n6 c6) es6 := fun p u Y hp h => ⟨h.main.setFar hp u, fun i x hx => (h.kids i x hx).setFar hp u, h.apart⟩
            exact far _ _ _ (by show w.heap.size + 2 < _; exact LQ5.out) (far _ _ _ (by show w.heap.size + 1 < _; have := LQ5.out; omega) (far _ _ _ (by show w.heap.size < _; have := LQ5.out; omega) E6.out))
          have B7 : Hid (Below w.heap.size w W7) := Lib.hid (B6.out.trans h7.2)
          have hrd := E7.read
          rw [HM6.out] at hrd
          obtain ⟨c0, c1, c2, z0, z1, z2, lb⟩ := h7.1.cells
          have c2' : W7.cell? ⟨w.heap.size + 1 + 1, 0, none⟩ = some (.int .i64 4) := c2
          clear hwq hs7 c2 z0 z1 z2 lb h7 y0 y1 y2 x0 x1 x2 ly ly1 ly2
          refine leaves_cons (f := 22) (args := #[.pointer (some ⟨w.heap.size, 0, none⟩), .pointer (some ⟨w.heap.size + 1, 0, none⟩), .pointer (some ⟨w.heap.size + 1 + 1, 0, none⟩)]) (by simp) (by simp [go_sem]) ?_
          refine (catch_idle _ _ _ _).mono ?_
          rintro e u' wf ⟨rfl, rfl, rfl⟩
          simp [Leaves, settle, results, Tryd.results9, go_sem, c0, c1, c2']
          exact ⟨(.slice none 0 0), rfl, SlR.nil_ _ (by unfold maxLen; omega) _, B7.out⟩
  · have hp : parseN (bs s) = ([], R.2.1, R.2.2) := by unfold parseN; rw [hR, if_pos he]
    rw [hp]
    clear hp hm hg
    rw [hR] at HS
    obtain ⟨toks, at_, err⟩ := R
    simp only at he ⊢
    have e1 : ((err : Int) != 0) = true := by simp; omega
    have e2 : ¬ (err : Int) = 0 := by omega
    clear he hR
    go_enter_defers Tryd.func9, Tryd.ntmps9
    go_wp2_with (first
      | (go_at_call 21; refine (HS.out _ B0.out).mono ?_; rintro e w1 ⟨a, n, c, rfl, hO, hB⟩; have X1 := Lib.hid (X0.out.below hB (by simp)); have B1 : Hid (Below w.heap.size w w1) := Lib.hid (B0.out.trans (hB.mono B0.out.size)); obtain ⟨c0, c1, c2, z0, z1, z2, lb⟩ := X1.out.cells; clear hO hB))
    generalize hwq : World.setCell (World.setCell _ _ _) _ _ = W2
    have hX2 := X1.out.set2 (at_ : Int) (err : Int)
    have h2 : Bx W2 w.heap.size (.slice none 0 0) at_ err ∧ Below w.heap.size w1 W2 := by rw [← hwq]; exact hX2
    clear hwq hX2 c0 c1 c2 z0 z1 z2 lb X0 B0
    have X2 := Lib.hid h2.1
    have B2 : Hid (Below w.heap.size w W2) := Lib.hid (B1.out.trans h2.2)
    obtain ⟨c0, c1, c2, z0, z1, z2, lb⟩ := h2.1.cells
    clear h2 X1 B1
    have c2' : W2.cell? ⟨w.heap.size + 1 + 1, 0, none⟩ = some (.int .i64 (err : Int)) := c2
    have z2' : W2.frozen? ⟨w.heap.size + 1 + 1, 0, none⟩ = false := z2
    have lb' : w.heap.size + 1 + 1 < W2.heap.size := lb
    have lb1 : w.heap.size + 1 < W2.heap.size := by omega
    have lb0 : w.heap.size < W2.heap.size := by omega
    clear c2 z2 lb
    go_region
    generalize hwq : World.drew _ = W3
    have hX3 := X2.out.set (.slice none 0 0) (at_ : Int) (err : Int)
    have h3 : Bx W3 w.heap.size (.slice none 0 0) at_ err ∧ Below w.heap.size W2 W3 := by rw [← hwq]; exact ⟨hX3.1.below ((Below.refl _ _).drew) hX3.1.err.lt, hX3.2.drew⟩
    clear hwq hX3 c0 c1 c2' z0 z1 z2' lb' lb1 lb0 X2
    obtain ⟨c0, c1, c2, z0, z1, z2, lb⟩ := h3.1.cells
    have c2' : W3.cell? ⟨w.heap.size + 1 + 1, 0, none⟩ = some (.int .i64 (err : Int)) := c2
    have B3 : Hid (Below w.heap.size w W3) := Lib.hid (B2.out.trans h3.2)
    clear h3 c2 z0 z1 z2 lb
    go_wp2_with fail
    simp [bodyPostD, Leaves, settle, results, Tryd.results9, go_sem, c0, c1, c2']
    exact ⟨.slice none 0 0, rfl, SlR.nil_ _ (by unfold maxLen; omega) _, B3.out⟩
end Go.Proofs.YtlenenfgedgmhaaDoor
