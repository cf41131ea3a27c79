/- The reference's Twin: a copy with rows of its own. -/
import Derived.Test.YtlenenfgedgmhaaDoorNd
import Derived.Test.YtlenenfgedgmhaaDoorMParse
namespace Go.Proofs.YtlenenfgedgmhaaDoor
set_option linter.unusedSimpArgs false
set_option linter.unusedVariables false
open Go.RowKit

/-- a node's cells -/
def IsNDv : List Value → ND × Value → Prop := fun x p => x = [.int .i64 p.1.kind, .string (txt p.1.text), .int .i64 p.1.num, p.2] ∧ ∃ a n c, p.2 = .slice a n c
theorem IsNDv.one : ∀ x y, IsNDv x y → ∀ u ∈ x, u.oneCell' = true := by
  intro x y h u hu
  obtain ⟨rfl, a, n, c, h2⟩ := h
  rw [h2] at hu
  simp at hu
  rcases hu with rfl | rfl | rfl | rfl <;> rfl
theorem IsI.one : ∀ x y, IsI x y → ∀ u ∈ x, u.oneCell' = true := by
  intro x y h u hu
  unfold IsI at h
  subst h
  simp at hu
  subst hu
  rfl
/-- a list of nodes of the call's own -/
structure NL (X : World) (B : Nat) (v : Value) (es : List (ND × Value)) : Prop where
  main : Own1 X B 46 4 IsNDv v es
  kids : ∀ (i : Nat) (p : ND × Value), es[i]? = some p → Own1 X B 3 1 IsI p.2 p.1.kids
section
variable {X X' : World} {B : Nat} {v v' : Value} {es : List (ND × Value)}
theorem NL.nil (X : World) (B : Nat) : NL X B (.slice none 0 0) [] := ⟨⟨[], ⟨rfl, .inl ⟨rfl, rfl⟩⟩, FlatR.nil_⟩, fun i p h => by simp at h⟩
theorem NL.alloc (h : NL X B v es) (o : Obj) : NL (X.alloc o) B v es := ⟨h.main.alloc o, fun i p hp => (h.kids i p hp).alloc o⟩
theorem NL.below (h : NL X B v es) (hb : Below X.heap.size X X') : NL X' B v es :=
  ⟨h.main.stay (fun b _ hl => hb.block b hl), fun i p hp => (h.kids i p hp).stay (fun b _ hl => hb.block b hl)⟩
theorem NL.setFar (h : NL X B v es) {p : Addr} (hp : p.block < B) (u : Value) : NL (X.setCell p u) B v es :=
  ⟨h.main.setFar hp u, fun i q hq => (h.kids i q hq).setFar hp u⟩
/-- a node more, with a row of its own -/
theorem NL.push (h : NL X B v es) {e : ND} {kv : Value} (hk : Own1 X B 3 1 IsI kv e.kids) (hm : Own1 X' B 46 4 IsNDv v' (es ++ [(e, kv)])) (hg : X.grownBy X' v.ownBlock) : NL X' B v' (es ++ [(e, kv)]) := by
  refine ⟨hm, fun i p hp => ?_⟩
  rcases Nat.lt_or_ge i es.length with hl | hl
  · rw [List.getElem?_append_left hl] at hp
    exact (h.kids i p hp).kept1 h.main (by decide) hg
  · rw [List.getElem?_append_right hl] at hp
    have h0 : i - es.length = 0 := by
      rcases Nat.eq_zero_or_pos (i - es.length) with h0 | h0
      · exact h0
      · rw [List.getElem?_eq_none (by simp; omega)] at hp; cases hp
    rw [h0] at hp
    simp at hp
    subst hp
    exact hk.kept1 h.main (by decide) hg
theorem NL.read (h : NL X B v es) : SlR X X.heap.size 4 (ND.Is X X.heap.size) v (es.map (·.1)) := by
  obtain ⟨a, c, rfl, h1, h2, h3⟩ := h.main.read (by omega)
  refine ⟨a, c, by rw [List.length_map], by rw [List.length_map]; exact h1, h2, fun hl => ?_⟩
  rw [List.length_map] at hl
  obtain ⟨b, off, hb, hlt, hat⟩ := h3 hl
  refine ⟨b, off, hb, hlt, fun i y hy => ?_⟩
  rw [List.getElem?_map] at hy
  cases he : es[i]? with
  | none => rw [he] at hy; cases hy
  | some p =>
    rw [he] at hy
    injection hy with hy
    subst hy
    obtain ⟨x, hx, ⟨hR, _⟩, hc⟩ := hat i p he
    exact ⟨x, hx, ⟨p.2, hR, (h.kids i p he).read (by omega)⟩, hc⟩
end

set_option maxRecDepth 100000 in
set_option maxHeartbeats 40000000 in
theorem twin8 {l : List ND} {v : Value} (w w0 : World) (hs : SlR w0 w0.heap.size 4 (ND.Is w0 w0.heap.size) v l) (hl : l.length * 56 ≤ 140737488355328) (hk : ∀ d ∈ l, d.kids.length * 8 ≤ 140737488355328) (hw : Below w0.heap.size w0 w) :
    Calls Tryd.prog 13 #[.agg #[v]] w fun e w' => ∃ v' es, e = .returned (.agg #[v']) ∧ NL w' (w.heap.size + 3) v' es ∧ es.map (·.1) = l ∧ Below w.heap.size w w' := by
  obtain ⟨a, c, rfl⟩ : ∃ a c, v = .slice a l.length c := by obtain ⟨a, c, h, _⟩ := hs.form; exact ⟨a, c, h⟩
  obtain ⟨n, hn⟩ : ∃ n, l.length = n := ⟨_, rfl⟩
  have HN := Lib.hid hn
  rw [hn] at hl ⊢
  have HS := Lib.hid hs
  have HW := Lib.hid hw
  have HKB := Lib.hid hk
  have n63 : (n : Int) ≤ 140737488355328 := by omega
  have BA : Hid (Below w.heap.size w (((w.alloc (.cells #[.slice a n c] 24)).alloc (.cells #[.slice none 0 0] 24)).alloc (.cells #[.slice none 0 0] 24))) := Lib.hid ((((Below.refl _ _).alloc (Nat.le_refl _) _).alloc (by rw [World.size_alloc]; omega) _).alloc (by rw [World.size_alloc, World.size_alloc]; omega) _)
  have KQA : Hid (Blk (((w.alloc (.cells #[.slice a n c] 24)).alloc (.cells #[.slice none 0 0] 24)).alloc (.cells #[.slice none 0 0] 24)) w.heap.size 24 #[.slice a n c]) := Lib.hid (((Blk.new _ _ _).alloc _).alloc _)
  have KRA : Hid (Blk (((w.alloc (.cells #[.slice a n c] 24)).alloc (.cells #[.slice none 0 0] 24)).alloc (.cells #[.slice none 0 0] 24)) (w.heap.size + 1) 24 #[.slice none 0 0]) := Lib.hid ((Blk.new_ (by rw [World.size_alloc]) _ _).alloc _)
  have KOA : Hid (Blk (((w.alloc (.cells #[.slice a n c] 24)).alloc (.cells #[.slice none 0 0] 24)).alloc (.cells #[.slice none 0 0] 24)) (w.heap.size + 2) 24 #[.slice none 0 0]) := Lib.hid (Blk.new_ (by rw [World.size_alloc, World.size_alloc]) _ _)
  obtain ⟨jE, hi, hz, hs2, hby⟩ := info_parts info_enode
  have IE := Lib.hid (And.intro hi (And.intro hz (And.intro hs2 hby)))
  clear hi hz hs2 hby
  obtain ⟨jI, hi, hz, hs2, hby⟩ := info_parts info_int
  have II := Lib.hid (And.intro hi (And.intro hz (And.intro hs2 hby)))
  clear hi hz hs2 hby hs hw hn hk
  go_enter Tryd.func13, Tryd.ntmps13
  go_wp2_with fail
  go_loopw [4, 5] (fun iv _ wr => ∃ (j : Nat) (oa : Option Addr) (oc : Nat) (es : List (ND × Value)), j ≤ n ∧ iv = .int .i64 (j : Int) ∧ Hid (es.map (·.1) = l.take j) ∧ Hid (NL wr (w.heap.size + 3) (.slice oa j oc) es) ∧ Hid (Blk wr w.heap.size 24 #[.slice a n c]) ∧ Hid (Blk wr (w.heap.size + 1) 24 #[.slice none 0 0]) ∧ Hid (Blk wr (w.heap.size + 2) 24 #[.slice oa j oc]) ∧ Hid (Below w.heap.size w wr)) (fun iv _ _ => n - (intOf iv).toNat)
  case atStart => exact ⟨0, none, 0, [], Nat.zero_le _, rfl, Lib.hid rfl, Lib.hid (NL.nil _ _), KQA, KRA, KOA, BA⟩
  case round =>
    obtain ⟨j, oa, oc, es, hj, rfl, HES, HEL, KQ1, KR1, KO1, HB1⟩ := hrel
    clear KQA KRA KOA BA
    obtain ⟨wo, hwo⟩ : ∃ W, W = wr := ⟨wr, rfl⟩
    subst hwo
    have j0 : (0 : Int) ≤ (j : Int) := Int.natCast_nonneg _
    have q0 : wo.cell? ⟨w.heap.size, 0, none⟩ = some (.slice a n c) := KQ1.out.cell (i := 0) rfl
    have o0 : wo.cell? ⟨w.heap.size + 2, 0, none⟩ = some (.slice oa j oc) := KO1.out.cell (i := 0) rfl
    have r0 : wo.cell? ⟨w.heap.size + 1, 0, none⟩ = some (.slice none 0 0) := KR1.out.cell (i := 0) rfl
    have zr := KR1.out.frozen 0
    have lq := KQ1.out.lt
    have lr := KR1.out.lt
    have lo := KO1.out.lt
    by_cases hlt : j < n
    · obtain ⟨d, hd⟩ := get_some HN.out hlt
      have hwr : Below w0.heap.size w0 wo := HW.out.trans (HB1.out.mono HW.out.size)
      obtain ⟨bN, off, x, rfl, hbN, _, ⟨kv, rfl, hks⟩, hx⟩ := (HS.out.below hwr).at_ hd
      obtain ⟨ka, kc, rfl, _⟩ := hks.form
      have hkb := HKB.out d (List.mem_iff_getElem?.2 ⟨j, hd⟩)
      obtain ⟨kn, hkn⟩ : ∃ z, d.kids.length = z := ⟨_, rfl⟩
      rw [hkn] at hks hx hkb
      have x0 : wo.cell? ⟨bN, off + j * 4, none⟩ = some (.int .i64 d.kind) := hx 0 _ rfl
      have x1 : wo.cell? ⟨bN, off + j * 4 + 1, none⟩ = some (.string (txt d.text)) := hx 1 _ rfl
      have x2 : wo.cell? ⟨bN, off + j * 4 + 2, none⟩ = some (.int .i64 d.num) := hx 2 _ rfl
      have x3 : wo.cell? ⟨bN, off + j * 4 + 3, none⟩ = some (.slice ka kn kc) := hx 3 _ rfl
      have kn63 : kn ≤ 9223372036854775807 := by omega
      have KB := Lib.hid hkb
      have w0le : w0.heap.size ≤ wo.heap.size := hwr.size
      have KS2 : Hid (SlR ((wo.alloc (.cells #[.int .i64 d.kind, .string (txt d.text), .int .i64 d.num, .slice ka kn kc] 46)).alloc (.cells #[] 3)) w0.heap.size 1 IsI (.slice ka kn kc) d.kids) := Lib.hid (hks.below (hwr.trans (((Below.refl w0.heap.size wo).alloc w0le _).alloc (by rw [World.size_alloc]; omega) _)))
      have HD := Lib.hid hd
      have jn : (j : Int) < (n : Int) := by omega
      have HEN : Hid (es.length = j) := Lib.hid (by have := congrArg List.length HES.out; rw [List.length_map, List.length_take, HN.out] at this; omega)
      have HSZ : Hid (w.heap.size + 3 ≤ wo.heap.size) := Lib.hid (by omega)
      have lbN : bN < wo.heap.size := by omega
      have tokA : True := trivial
      clear hd hks hx hwr hkn hbN
      go_wp2_with (first
          | (at_builtin
             have _t := tokA
             go_must (refine wpList_append_list rfl (.tmp 18) (.tmp 20) _ rfl (wo.heap.size + 1) w0.heap.size 3 jI _ 1 8 Tryd.underlying44 II.out.1 II.out.2.1 II.out.2.2.1 II.out.2.2.2 rfl (by omega) (R := IsI) (l := ([] : List Int)) (m := d.kids) (.slice (some ⟨wo.heap.size + 1, 0, none⟩) 0 0) ?_ (by exact Own1.empty (w := (wo.alloc (.cells #[.int .i64 d.kind, .string (txt d.text), .int .i64 d.num, .slice ka kn kc] 46))) (by rw [World.size_alloc]) (by rw [World.size_alloc]; exact Nat.le_refl _)) ka kn kc ?_ (by exact KS2.out) kn (by simp) IsI.one (by simp; unfold maxLen; omega) (by simp; exact KB.out) (by rw [World.size_alloc, World.size_alloc]; omega) ?_)
             rfl
             rfl
             intro la lc w3 hown hgr
             have O3 := Lib.hid (And.intro hown hgr)
             have BO : Hid (Below wo.heap.size wo w3) := Lib.hid ((((Below.refl wo.heap.size wo).alloc (Nat.le_refl _) _).alloc (by rw [World.size_alloc]; omega) _).grown hgr (by rw [World.size_alloc, World.size_alloc]; omega) (fun g' hg' => by simp [Value.ownBlock] at hg'; omega))
             have G3 := Lib.hid ((((Blk.new wo 46 #[.int .i64 d.kind, .string (txt d.text), .int .i64 d.num, .slice ka kn kc]).alloc (.cells #[] 3))).grown hgr (by simp [Value.ownBlock]))
             have y0 : w3.cell? ⟨wo.heap.size, 0, none⟩ = some (.int .i64 d.kind) := G3.out.cell rfl
             have y1 : w3.cell? ⟨wo.heap.size, 1, none⟩ = some (.string (txt d.text)) := G3.out.cell rfl
             have y2 : w3.cell? ⟨wo.heap.size, 2, none⟩ = some (.int .i64 d.num) := G3.out.cell rfl
             have y3 : w3.cell? ⟨wo.heap.size, 3, none⟩ = some (.slice ka kn kc) := G3.out.cell rfl
             have yz := G3.out.frozen 3
             have lg3 := G3.out.lt
             have o3 : w3.cell? ⟨w.heap.size + 2, 0, none⟩ = some (.slice oa j oc) := (KO1.out.below BO.out KO1.out.lt).cell (i := 0) rfl
             have lo3 := cell_lt o3
             clear hown hgr tokA _t)
          | (at_builtin
             go_must (refine wpList_append_list rfl (.tmp 24) (.tmp 26) _ rfl (w.heap.size + 3) ((w3.setCell ⟨wo.heap.size, 3, none⟩ (.slice la kn lc)).heap.size + 1) 46 jE _ 4 56 Tryd.underlying22 IE.out.1 IE.out.2.1 IE.out.2.2.1 IE.out.2.2.2 rfl (by omega) (R := IsNDv) (l := es) (m := [(d, .slice la kn lc)]) (.slice oa j oc) ?_ (by exact ((HEL.out.below (BO.out.setCell (p := ⟨wo.heap.size, 3, none⟩) (Nat.le_refl _) (.slice la kn lc)))).main.alloc (.cells #[.int .i64 d.kind, .string (txt d.text), .int .i64 d.num, .slice la kn lc] 46)) (some ⟨w3.heap.size, 0, none⟩) 1 1 ?_ (by exact SlR.new1 (w := (w3.setCell ⟨wo.heap.size, 3, none⟩ (.slice la kn lc))) (x := [.int .i64 d.kind, .string (txt d.text), .int .i64 d.num, .slice la kn lc]) (by simp) rfl ⟨rfl, _, _, _, rfl⟩) (j + 1) (by rw [HEN.out]) IsNDv.one (by rw [HEN.out]; unfold maxLen; omega) (by rw [HEN.out]; omega) (by have := BO.out.size; have := HSZ.out; rw [World.size_alloc, World.size_setCell]; omega) ?_)
             rfl
             rfl
             intro oa2 oc2 w4 hown hgr
             have O4 := Lib.hid (And.intro hown hgr)
             have K4 := Lib.hid (((KO1.out.below (BO.out.setCell (p := ⟨wo.heap.size, 3, none⟩) (Nat.le_refl _) (.slice la kn lc)) KO1.out.lt).alloc (.cells #[.int .i64 d.kind, .string (txt d.text), .int .i64 d.num, .slice la kn lc] 46)).grown hgr (fun e => by have := (HEL.out.main.block _ e.symm).1; omega))
             have g4 : w4.cell? ⟨w.heap.size + 2, 0, none⟩ = some (.slice oa j oc) := K4.out.cell (i := 0) rfl
             have z4 := K4.out.frozen 0
             clear hown hgr))
      have BO2 : Below wo.heap.size wo (w3.setCell ⟨wo.heap.size, 3, none⟩ (.slice la kn lc)) := BO.out.setCell (p := ⟨wo.heap.size, 3, none⟩) (Nat.le_refl _) _
      have hkv : Own1 ((w3.setCell ⟨wo.heap.size, 3, none⟩ (.slice la kn lc)).alloc (.cells #[.int .i64 d.kind, .string (txt d.text), .int .i64 d.num, .slice la kn lc] 46)) (w.heap.size + 3) 3 1 IsI (.slice la kn lc) d.kids := by
        have := ((O3.out.1.setFar (p := ⟨wo.heap.size, 3, none⟩) (Nat.lt_succ_self _) (.slice la kn lc)).alloc (.cells #[.int .i64 d.kind, .string (txt d.text), .int .i64 d.num, .slice la kn lc] 46)).mono (base' := w.heap.size + 3) (by have := HSZ.out; omega)
        rw [List.nil_append] at this
        exact this
      have E4 := ((HEL.out.below BO2).alloc (.cells #[.int .i64 d.kind, .string (txt d.text), .int .i64 d.num, .slice la kn lc] 46)).push (e := d) hkv O4.out.1 O4.out.2
      have HB4 : Below (w.heap.size + 3) wo w4 := ((BO2.mono HSZ.out).alloc (by have := BO2.size; have := HSZ.out; omega) (.cells #[.int .i64 d.kind, .string (txt d.text), .int .i64 d.num, .slice la kn lc] 46)).grown O4.out.2 (by have := BO2.size; have := HSZ.out; rw [World.size_alloc]; omega) (fun g' hg' => (HEL.out.main.block g' hg').1)
      have HE4 := Lib.hid E4
      have HB5 := Lib.hid HB4
      clear E4 HB4 hkv BO2
      go_roundw
      case rel =>
        refine ⟨j + 1, oa2, oc2, es ++ [(d, .slice la kn lc)], by omega, by go_num, Lib.hid ?_, Lib.hid (HE4.out.setFar (p := ⟨w.heap.size + 2, 0, none⟩) (Nat.lt_succ_self _) _), Lib.hid ((KQ1.out.below HB5.out (by omega)).far (by show w.heap.size ≠ w.heap.size + 2; omega) _), Lib.hid ((KR1.out.below HB5.out (by omega)).far (by show w.heap.size + 1 ≠ w.heap.size + 2; omega) _), Lib.hid (K4.out.set_ 0 _), Lib.hid ((HB1.out.trans (HB5.out.mono (by omega))).setCell (p := ⟨w.heap.size + 2, 0, none⟩) (by show w.heap.size ≤ w.heap.size + 2; omega) _)⟩
        rw [take_snoc1 HD.out, List.map_append, HES.out]
        rfl
      case measure => simp [intOf]; omega
    · obtain rfl : j = n := by omega
      have djj : decide (j < j) = false := by simp
      clear hlt
      go_wp2_with fail
      generalize hW9 : World.setCell wo _ _ = W9
      have r9 : W9.cell? ⟨w.heap.size + 1, 0, none⟩ = some (.slice oa j oc) := by rw [← hW9]; exact (KR1.out.set_ 0 _).cell rfl
      have b9 : Below w.heap.size w W9 := by rw [← hW9]; exact HB1.out.setCell (p := ⟨w.heap.size + 1, 0, none⟩) (Nat.le_succ _) _
      have e9 : NL W9 (w.heap.size + 3) (.slice oa j oc) es := by rw [← hW9]; exact HEL.out.setFar (p := ⟨w.heap.size + 1, 0, none⟩) (by show w.heap.size + 1 < w.heap.size + 3; omega) _
      refine bodyPost_ret (v := .agg #[.slice oa j oc]) (by simp [results, Tryd.results13, go_sem, r9]) rfl ?_
      refine ⟨_, es, rfl, e9, ?_, b9⟩
      rw [HES.out, List.take_of_length_le (by rw [HN.out]; exact Nat.le_refl _)]
end Go.Proofs.YtlenenfgedgmhaaDoor
