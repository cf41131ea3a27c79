/- expr.tell: a node's text, written. -/
import Derived.Test.YtlenenfgedgmhaaDoorTl1
import Derived.StillTailTactics
import Derived.Deep.RegionLaw
import Derived.WalkSmall
namespace Go.Proofs.YtlenenfgedgmhaaDoor
set_option linter.unusedSimpArgs false
set_option linter.unusedVariables false
open Go.RowKit

section
variable {B b bb eb nb : Nat} {v : Value} {cs : Array Value} {W Y Y' : World} {o o' : List Nat}
theorem TS.drew (h : TS B b bb eb nb v cs W Y o) : TS B b bb eb nb v cs W Y.drew o := h.keep ((Below.refl _ _).drew)
theorem TS.writeL (h : TS B b bb eb nb v cs W Y o) {lt : ByteArray} (s : List Nat) (hq : txt s = lt) (hs : Bytes s) (hl : o.length + s.length ≤ 1099511627776) :
    Calls Tryd.prog 56 #[.pointer (some ⟨b, 0, none⟩), .string lt] Y fun e w' => e = .returned (.tuple #[.int .i64 (s.length : Int), .nilIface]) ∧ TS B b bb eb nb v cs W w' (o ++ s) := by
  subst hq
  exact h.write s hs hl
theorem TS.cells {k nm : Int} {s : List Nat} {ka : Option Addr} {kn kc : Nat} (h : TS B b bb eb nb v #[.int .i64 k, .string (txt s), .int .i64 nm, .slice ka kn kc] W Y o) : Y.cell? ⟨bb, 0, none⟩ = some (.pointer (some ⟨b, 0, none⟩)) ∧ Y.cell? ⟨eb, 0, none⟩ = some v ∧ Y.cell? ⟨nb, 0, none⟩ = some (.int .i64 k) ∧ Y.cell? ⟨nb, 1, none⟩ = some (.string (txt s)) ∧ Y.cell? ⟨nb, 2, none⟩ = some (.int .i64 nm) ∧ Y.cell? ⟨nb, 3, none⟩ = some (.slice ka kn kc) :=
  ⟨h.bx.cell rfl, h.ex.cell rfl, h.nx.cell rfl, h.nx.cell rfl, h.nx.cell rfl, h.nx.cell rfl⟩
theorem TS.start (h : BuiltSt W B b o) (hB : B ≤ W.heap.size) (v : Value) (cs : Array Value) : TS B b W.heap.size (W.heap.size + 1) (W.heap.size + 1 + 1) v cs W (((W.alloc (.cells #[.pointer (some ⟨b, 0, none⟩)] 72)).alloc (.cells #[v] 24)).alloc (.cells cs 46)) o := by
  have hb : Below W.heap.size W (((W.alloc (.cells #[.pointer (some ⟨b, 0, none⟩)] 72)).alloc (.cells #[v] 24)).alloc (.cells cs 46)) := ((Below.refl _ _).alloc (Nat.le_refl _) _).alloc (below2 (Nat.le_refl _)) _ |>.alloc (below3 (Nat.le_refl _)) _
  have hlt : b < W.heap.size := by obtain ⟨_, _, _, _, h3, _⟩ := h; exact h3.lt
  exact ⟨h.keep hb, hb.mono hB, KeptBut.of_below hb, ((Blk.new _ _ _).alloc _).alloc _, (Blk.new_ (by simp) _ _).alloc _, Blk.new_ (by simp) _ _, by omega, by omega, by omega, hB⟩
end
/-- no panic comes of it -/
def noP (Q : Exit → Act → World → Prop) : Exit → Act → World → Prop := fun e a w => match e with
  | .panic _ => False
  | e => Q e a w
theorem wp_np {P : Program} {c : Code} {Q : Exit → Act → World → Prop} {a : Act} {w : World} (h : c.wp P (noP Q) a w) : c.wp P Q a w :=
  Code.wp_mono (fun e a w h => by cases e <;> first | exact h | exact h.elim) h
theorem leaves_nil {P : Program} {fn : Func} {tmps : Array Value} {R : Ending → World → Prop} {w : World} {v : Value} (h1 : (results fn tmps).run P w = .ok v w) (h2 : R (.returned v) w) : Leaves P fn tmps R [] .returning w := ⟨v, h1, h2⟩
/-- what tell does, up to some fuel -/
def TellC (w0 : World) (l : List ND) (v : Value) (f : Nat) : Prop := ∀ (B b m t : Nat) (W : World) (o : List Nat), (∃ r, metN l f m = some r) → t ≤ 7 → BuiltSt W B b o → B ≤ W.heap.size → w0.heap.size ≤ B → Below w0.heap.size w0 W → o.length + (tellN l f m t).length ≤ 1099511627776 →
  Calls Tryd.prog 30 #[.pointer (some ⟨b, 0, none⟩), .agg #[v], .int .i64 (m : Int), .int .i64 (t : Int)] W fun e w' => e = .returned (.tuple #[]) ∧ BuiltSt w' B b (o ++ tellN l f m t) ∧ Below B W w' ∧ KeptBut b W w'
set_option maxRecDepth 100000 in
set_option maxHeartbeats 8000000 in
theorem p_kid (w0 : World) (l : List ND) (va : Option Addr) (vn vc : Nat) (f : Nat) (HT : TellC w0 l (.slice va vn vc) f) (k nm : Int) (s : List Nat) (ks : List Int) (ka : Option Addr) (kn kc : Nat) (hks : SlR w0 w0.heap.size 1 IsI (.slice ka kn kc) ks) (hkd : ∀ (i : Nat) (y : Int), ks[i]? = some y → ∃ (z : Nat) (x : Nat × Nat), y = (z : Int) ∧ metN l f z = some x)
    (B b bb eb nb : Nat) (W Y : World) (o : List Nat) (i t : Nat) (hi : i < ks.length) (ht : t ≤ 7) (h : TS B b bb eb nb (.slice va vn vc) #[.int .i64 k, .string (txt s), .int .i64 nm, .slice ka kn kc] W Y o) (hw : Below w0.heap.size w0 W) (hB : w0.heap.size ≤ B) (hl : o.length + (kidT (tellN l f) ⟨k, s, nm, ks⟩ i t).length ≤ 1099511627776) :
    Calls Tryd.prog 57 #[.int .i64 (i : Int), .int .i64 (t : Int), .pointer (some ⟨bb, 0, none⟩), .pointer (some ⟨eb, 0, none⟩), .pointer (some ⟨nb, 0, none⟩)] Y fun e w' => e = .returned (.tuple #[]) ∧ TS B b bb eb nb (.slice va vn vc) #[.int .i64 k, .string (txt s), .int .i64 nm, .slice ka kn kc] W w' (o ++ kidT (tellN l f) ⟨k, s, nm, ks⟩ i t) := by
  obtain ⟨y, hy⟩ := get_some rfl hi
  obtain ⟨z, x, rfl, hx⟩ := hkd i y hy
  have hkt : kidT (tellN l f) ⟨k, s, nm, ks⟩ i t = tellN l f z t := by unfold kidT; simp only; rw [hy]; rfl
  rw [hkt] at hl ⊢
  have hwY : Below w0.heap.size w0 Y := hw.trans (h.low.mono hB)
  obtain ⟨b1, o1, x1, rfl, hb1, _, rfl, hx1⟩ := (hks.below hwY).at_ hy
  have k0 : Y.cell? ⟨b1, o1 + i, none⟩ = some (.int .i64 (z : Int)) := by have := hx1 0 _ rfl; simpa using this
  have hkl := hks.len
  have i0 : (0 : Int) ≤ (i : Int) := Int.natCast_nonneg _
  have ik : (i : Int) < (kn : Int) := by rw [hkl]; omega
  have ik2 : i < kn := by rw [hkl]; exact hi
  obtain ⟨g0, e0, n0, n1, n2, n3⟩ := h.cells
  have HS := Lib.hid h
  have CC := Lib.hid (HT B b z t Y.drew o ⟨x, hx⟩ ht h.drew.st h.bigY hB hwY.drew hl)
  clear hks hkd hy hx hkt hl hx1 hkl HT h hw hwY hB ht hi
  go_enter Tryd.func57, Tryd.ntmps57
  go_still_tail 8, (by kernel_rfl)
  change wpList _ _ _ _ _ Y.drew
  go_wp2_with (first
    | (go_at_call 30; (refine CC.out.mono ?_); rintro e w2 ⟨rfl, h1, h2, h3⟩; have S2 := Lib.hid (HS.out.drew.step h1 h2 h3); clear h1 h2 h3))
  go_end0
  exact ⟨rfl, S2.out⟩
/-- tell writes a node's text, wherever the node is right -/
theorem levels_k : ∀ x ∈ signsL, (x.2.2 = 7 → 8 ≤ x.2.1 ∧ x.2.1 ≤ 13) ∧ (x.2.2 ≤ 6 → 20 ≤ x.2.1 ∧ x.2.1 ≤ 28) ∧ x.2.2 ≤ 7 := by decide
theorem show_bytes (n : Int) : Bytes (showN n) := by
  unfold showN
  split
  · intro x hx
    rcases List.mem_cons.1 hx with h | h
    · omega
    · have := dec_digits _ x h; omega
  · intro x hx; have := dec_digits _ x hx; omega
theorem level_cases (k : Int) : (levelN k = 7 ∧ 8 ≤ k ∧ k ≤ 13) ∨ (k = 29 ∧ levelN k = 3) ∨ (levelN k ≤ 6 ∧ 20 ≤ k ∧ k ≤ 28) ∨ (levelN k = 8 ∧ k ≠ 29) := by
  unfold levelN
  cases h : signsL.find? (fun x => decide ((x.2.1 : Int) = k)) with
  | none =>
    simp only
    by_cases h29 : k = 29
    · rw [if_pos h29]; exact .inr (.inl ⟨h29, rfl⟩)
    · rw [if_neg h29]; exact .inr (.inr (.inr ⟨rfl, h29⟩))
  | some x =>
    have hx := levels_k x (List.mem_of_find?_eq_some h)
    have hk : ((x.2.1 : Int) = k) := by have h0 := List.find?_some h; simpa using h0
    simp only
    rcases Nat.lt_or_ge x.2.2 7 with h7 | h7
    · have := hx.2.1 (by omega); exact .inr (.inr (.inl ⟨by omega, by omega, by omega⟩))
    · have := hx.1 (by omega); exact .inl ⟨by omega, by omega, by omega⟩
set_option maxRecDepth 100000 in
set_option maxHeartbeats 32000000 in
theorem tell_all (w0 : World) (l : List ND) (va : Option Addr) (vn vc : Nat) (hs : SlR w0 w0.heap.size 4 (ND.Is w0 w0.heap.size) (.slice va vn vc) l) (hok : ∀ d ∈ l, NdOk d) (hg : Signs w0) (hp : Pow w0) : ∀ f, TellC w0 l (.slice va vn vc) f := by
  have hmf : ∀ (fn : Fn) (first cap : Array Value) (w : World), (Instr.makeFunc fn first cap).run Tryd.prog w = .ok (.func fn first cap) w := fun _ _ _ _ => rfl
  intro f
  induction f with
  | zero =>
    intro B b m t W o hr
    obtain ⟨r, hr⟩ := hr
    simp only [metN] at hr
    cases hr
  | succ f ih =>
  intro B b m t W o hr ht hst hB hwB hw hl
  obtain ⟨r, hr⟩ := hr
  simp only [metN] at hr
  cases hd : l[m]? with
  | none => rw [hd] at hr; cases hr
  | some d =>
  rw [hd] at hr
  obtain ⟨k, s, nm, ks⟩ := d
  simp only at hr
  by_cases hmay : mayE ⟨k, s, nm, ks⟩ = true
  rotate_left
  · rw [if_neg hmay] at hr; cases hr
  rw [if_pos hmay] at hr
  obtain ⟨x0, hx0, _⟩ := Option.map_eq_some_iff.1 hr
  have hnk : kidsN k = (ks.length : Int) := by
    rw [mayE_def, Bool.and_eq_true, Bool.and_eq_true, Bool.and_eq_true] at hmay
    exact of_decide_eq_true hmay.1.1.1
  have hko := hok _ (List.mem_iff_getElem?.2 ⟨m, hd⟩)
  have hs4 : s.length ≤ 4096 := by
    rw [mayE_def, Bool.and_eq_true] at hmay
    have h2 := hmay.2
    by_cases hin : k ∈ namedL
    · rw [if_pos hin] at h2
      unfold plainN at h2
      rw [Bool.and_eq_true] at h2
      have := right_len h2.1
      omega
    · rw [if_neg hin, Bool.or_eq_true, Bool.and_eq_true] at h2
      rcases h2 with h2 | h2
      · rw [of_decide_eq_true h2]; simp
      · exact of_decide_eq_true h2.2
  have hE : tellN l (f + 1) m t = if levelN k < t then [40] ++ bodyT (tellN l f) ⟨k, s, nm, ks⟩ ++ [41] else bodyT (tellN l f) ⟨k, s, nm, ks⟩ := by simp only [tellN]; rw [hd]
  rw [hE] at hl ⊢
  have hml := (List.getElem?_eq_some_iff.1 hd).1
  have hvn := hs.len
  obtain ⟨bN, off, x, rfl, hbN, _, ⟨kv, rfl, hks⟩, hx⟩ := (hs.below hw).at_ hd
  simp only at hks hx
  obtain ⟨ka, kc, rfl, _⟩ := hks.form
  have c0 := hx 0 _ rfl
  have c1 := hx 1 _ rfl
  have c2 := hx 2 _ rfl
  have c3 := hx 3 _ rfl
  simp only [Nat.add_zero] at c0
  obtain ⟨kn, hkn⟩ : ∃ z, ks.length = z := ⟨_, rfl⟩
  rw [hkn] at c3 hks
  have m0 : (0 : Int) ≤ (m : Int) := Int.natCast_nonneg _
  have mv : (m : Int) < (vn : Int) := by rw [hvn]; omega
  have mv2 : m < vn := by rw [hvn]; exact hml
  have hbW : bN < W.heap.size := by have := hw.size; omega
  have T00 := Lib.hid (TS.start hst hB (.slice (some ⟨bN, off, none⟩) vn vc) #[.int .i64 k, .string (txt s), .int .i64 nm, .slice ka kn kc])
  have BW3 : Hid (Below W.heap.size W (((W.alloc (.cells #[.pointer (some ⟨b, 0, none⟩)] 72)).alloc (.cells #[.slice (some ⟨bN, off, none⟩) vn vc] 24)).alloc (.cells #[.int .i64 k, .string (txt s), .int .i64 nm, .slice ka kn kc] 46))) := Lib.hid (((Below.refl _ _).alloc (Nat.le_refl _) _).alloc (below2 (Nat.le_refl _)) _ |>.alloc (below3 (Nat.le_refl _)) _)
  have LV : Hid (∀ Y, Below W.heap.size W Y → Calls Tryd.prog 55 #[.int .i64 k] Y fun e w' => e = .returned (.int .i64 (levelN k : Int)) ∧ Below Y.heap.size Y w') := Lib.hid (fun Y hY => p_levelT k Y (hg.of_block ((hw.trans (hY.mono hw.size)).block 1 (by obtain ⟨_, _, h⟩ := signs_block hg; rcases Nat.lt_or_ge 1 w0.heap.size with h0 | h0; exact h0; rw [Array.getElem?_eq_none h0] at h; cases h))))
  have MK : Hid (∀ Y, Below w0.heap.size w0 Y → Calls Tryd.prog 60 #[.int .i64 k] Y fun e w' => e = .returned (.string (txt (markT k))) ∧ Below Y.heap.size Y w') := Lib.hid (fun Y hY => p_markT k Y (hg.of_block (hY.block 1 (by obtain ⟨_, _, h⟩ := signs_block hg; rcases Nat.lt_or_ge 1 w0.heap.size with h0 | h0; exact h0; rw [Array.getElem?_eq_none h0] at h; cases h))))
  have WD : Hid (∀ Y, Calls Tryd.prog 61 #[.int .i64 k] Y fun e w' => e = .returned (.string (txt (wordT k))) ∧ Below Y.heap.size Y w') := Lib.hid (fun Y => p_wordT k Y)
  have SH : Hid (∀ Y, Below w0.heap.size w0 Y → Calls Tryd.prog 58 #[.int .i64 nm] Y fun e w' => e = .returned (.string (txt (showN nm))) ∧ Below Y.heap.size Y w') := Lib.hid (fun Y hY => show_any nm hko.2.2.1 hko.2.2.2 Y (hp.below hY))
  have KD : Hid (∀ (Y : World) (o' : List Nat) (i t : Nat) (ii ti : Int), ii = (i : Int) → ti = (t : Int) → i < ks.length → t ≤ 7 → TS B b W.heap.size (W.heap.size + 1) (W.heap.size + 1 + 1) (.slice (some ⟨bN, off, none⟩) vn vc) #[.int .i64 k, .string (txt s), .int .i64 nm, .slice ka kn kc] W Y o' → o'.length + (kidT (tellN l f) ⟨k, s, nm, ks⟩ i t).length ≤ 1099511627776 → Calls Tryd.prog 57 #[.int .i64 ii, .int .i64 ti, .pointer (some ⟨W.heap.size, 0, none⟩), .pointer (some ⟨W.heap.size + 1, 0, none⟩), .pointer (some ⟨W.heap.size + 1 + 1, 0, none⟩)] Y fun e w' => e = .returned (.tuple #[]) ∧ TS B b W.heap.size (W.heap.size + 1) (W.heap.size + 1 + 1) (.slice (some ⟨bN, off, none⟩) vn vc) #[.int .i64 k, .string (txt s), .int .i64 nm, .slice ka kn kc] W w' (o' ++ kidT (tellN l f) ⟨k, s, nm, ks⟩ i t)) := Lib.hid (fun Y o' i t ii ti hii hti hi ht h hl => by rw [hii, hti]; exact p_kid w0 l (some ⟨bN, off, none⟩) vn vc f ih k nm s ks ka kn kc hks (fun i y hy => metL_kid hx0 hy) B b W.heap.size (W.heap.size + 1) (W.heap.size + 1 + 1) W Y o' i t hi ht h hw hwB hl)
  have zs : (txt s).size ≤ 4096 := by rw [txt_size]; exact hs4
  have zm : (txt (markT k)).size ≤ 8 := by rw [txt_size]; exact (mark_len k).1
  have zw : (txt (wordT k)).size ≤ 8 := by rw [txt_size]; exact (word_len k).1
  have QU : Hid (∀ Y, Calls Tryd.prog 59 #[.string (txt s)] Y fun e w' => e = .returned (.string (txt (quoteN s))) ∧ Below Y.heap.size Y w') := Lib.hid (fun Y => by have h0 := quote_any (txt s) (by omega) Y; rw [bs_txt hko.1] at h0; exact h0)
  have HKN := Lib.hid hkn
  have HNK := Lib.hid hnk
  have HBS := Lib.hid hko.1
  have HB0 := Lib.hid (And.intro hB (And.intro hwB hw))
  have HL0 := Lib.hid hl
  obtain ⟨ow, how⟩ : ∃ z, levelN k = z := ⟨_, rfl⟩
  have hlc := level_cases k
  rw [how] at LV hlc
  have HOW := Lib.hid how
  have HGV := Lib.hid (And.intro hg (And.intro hp hok))
  clear hst hs hok hg hp hr hx0 hmay hko hE hvn hml hks hx hd ih hB hwB hw hl hnk how
  by_cases k1 : k = 1
  · subst k1
    have hw8 : ow = 8 := by rw [← HOW.out]; decide
    have HBODY : Hid (bodyT (tellN l f) ⟨1, s, nm, ks⟩ = showN nm) := Lib.hid (by unfold bodyT; exact if_pos rfl)
    have hlt : decide ((ow : Int) < (t : Int)) = false := by simp; omega
    have hltN : decide (ow < t) = false := by simp; omega
    have HLT : Hid (¬ levelN 1 < t) := Lib.hid (by rw [HOW.out]; omega)
    clear hw8
    have HL : Hid (o.length + (showN nm).length ≤ 1099511627776) := Lib.hid (by have h9 := HL0.out; rw [if_neg HLT.out, HBODY.out] at h9; exact h9)
    go_enter_defers Tryd.func30, Tryd.ntmps30
    go_wp2_with (first
      | (go_at_call 55; (refine (LV.out _ (by exact BW3.out)).mono ?_); rintro e w1 ⟨rfl, hb1⟩; have T0 := Lib.hid ((T00.out).keep hb1); clear hb1; obtain ⟨g0, e0, n0, n1, n2, n3⟩ := T0.out.cells))
    refine wp_np ?_
    go_region_law (first
      | (go_simp; go_at_call 58; (refine (SH.out _ (by exact HB0.out.2.2.trans (T0.out.drew.low.mono HB0.out.2.1))).mono ?_); rintro e wS ⟨rfl, hbS⟩; have TS0 := Lib.hid (T0.out.drew.keep hbS); obtain ⟨y0, y1, y2, y3, y4, y5⟩ := TS0.out.cells; clear hbS)
      | (go_simp; go_at_call 56; (refine (TS0.out.writeL (showN nm) (rfl) (show_bytes nm) (by have := HL.out; (try simp only [List.length_append, List.length_cons, List.length_nil] at this ⊢); omega)).mono ?_); rintro e w1 ⟨rfl, h⟩; have T1 := Lib.hid h; clear h; clear g0 e0 n0 n1 n2 n3; obtain ⟨g0, e0, n0, n1, n2, n3⟩ := T1.out.cells; clear y0 y1 y2 y3 y4 y5 T0 TS0))
    all_goals
      show Leaves Tryd.prog Tryd.f30 _ _ _ _ _
      refine leaves_nil (results_none rfl _ _ _) ?_
      refine ⟨rfl, ?_, T1.out.low, T1.out.kept⟩
      first | rw [if_neg HLT.out, HBODY.out] | rw [HBODY.out]
      have h7 := T1.out.st
      exact h7
  by_cases k2 : k = 2
  · subst k2
    have hw8 : ow = 8 := by rw [← HOW.out]; decide
    have HBODY : Hid (bodyT (tellN l f) ⟨2, s, nm, ks⟩ = quoteN s) := Lib.hid (by unfold bodyT; dsimp only; rw [if_neg k1, if_pos rfl])
    have hlt : decide ((ow : Int) < (t : Int)) = false := by simp; omega
    have hltN : decide (ow < t) = false := by simp; omega
    have HLT : Hid (¬ levelN 2 < t) := Lib.hid (by rw [HOW.out]; omega)
    clear hw8
    have HL : Hid (o.length + (quoteN s).length ≤ 1099511627776) := Lib.hid (by have h9 := HL0.out; rw [if_neg HLT.out, HBODY.out] at h9; exact h9)
    go_enter_defers Tryd.func30, Tryd.ntmps30
    go_wp2_with (first
      | (go_at_call 55; (refine (LV.out _ (by exact BW3.out)).mono ?_); rintro e w1 ⟨rfl, hb1⟩; have T0 := Lib.hid ((T00.out).keep hb1); clear hb1; obtain ⟨g0, e0, n0, n1, n2, n3⟩ := T0.out.cells))
    refine wp_np ?_
    go_region_law (first
      | (go_simp; go_at_call 59; (refine (QU.out _ ).mono ?_); rintro e wS ⟨rfl, hbS⟩; have TS0 := Lib.hid (T0.out.drew.keep hbS); obtain ⟨y0, y1, y2, y3, y4, y5⟩ := TS0.out.cells; clear hbS)
      | (go_simp; go_at_call 56; (refine (TS0.out.writeL (quoteN s) (rfl) (quote_bytes HBS.out) (by have := HL.out; (try simp only [List.length_append, List.length_cons, List.length_nil] at this ⊢); omega)).mono ?_); rintro e w1 ⟨rfl, h⟩; have T1 := Lib.hid h; clear h; clear g0 e0 n0 n1 n2 n3; obtain ⟨g0, e0, n0, n1, n2, n3⟩ := T1.out.cells; clear y0 y1 y2 y3 y4 y5 T0 TS0))
    all_goals
      show Leaves Tryd.prog Tryd.f30 _ _ _ _ _
      refine leaves_nil (results_none rfl _ _ _) ?_
      refine ⟨rfl, ?_, T1.out.low, T1.out.kept⟩
      first | rw [if_neg HLT.out, HBODY.out] | rw [HBODY.out]
      have h7 := T1.out.st
      exact h7
  by_cases k7 : k = 7
  · subst k7
    have hw8 : ow = 8 := by rw [← HOW.out]; decide
    have HBODY : Hid (bodyT (tellN l f) ⟨7, s, nm, ks⟩ = s) := Lib.hid (by unfold bodyT; dsimp only; rw [if_neg k1, if_neg k2, if_pos rfl])
    have hlt : decide ((ow : Int) < (t : Int)) = false := by simp; omega
    have hltN : decide (ow < t) = false := by simp; omega
    have HLT : Hid (¬ levelN 7 < t) := Lib.hid (by rw [HOW.out]; omega)
    clear hw8
    have HL : Hid (o.length + (s).length ≤ 1099511627776) := Lib.hid (by have h9 := HL0.out; rw [if_neg HLT.out, HBODY.out] at h9; exact h9)
    go_enter_defers Tryd.func30, Tryd.ntmps30
    go_wp2_with (first
      | (go_at_call 55; (refine (LV.out _ (by exact BW3.out)).mono ?_); rintro e w1 ⟨rfl, hb1⟩; have T0 := Lib.hid ((T00.out).keep hb1); clear hb1; obtain ⟨g0, e0, n0, n1, n2, n3⟩ := T0.out.cells)
      | (go_at_call 56; (refine (T0.out.writeL (s) (rfl) (HBS.out) (by have := HL.out; (try simp only [List.length_append, List.length_cons, List.length_nil] at this ⊢); omega)).mono ?_); rintro e w1 ⟨rfl, h⟩; have T1 := Lib.hid h; clear h; clear g0 e0 n0 n1 n2 n3; obtain ⟨g0, e0, n0, n1, n2, n3⟩ := T1.out.cells; clear T0))
    show Leaves Tryd.prog Tryd.f30 _ _ _ _ _
    refine leaves_nil (results_none rfl _ _ _) ?_
    refine ⟨rfl, ?_, T1.out.low, T1.out.kept⟩
    first | rw [if_neg HLT.out, HBODY.out] | rw [HBODY.out]
    have h7 := T1.out.st
    exact h7
  rcases hlc with hlc | hlc | hlc | hlc
  · obtain ⟨rfl, h8, h13⟩ := hlc
    have HKE : Hid (levelN k = 7) := HOW
    have KL : Hid (ks.length = 1) := Lib.hid (by
      have h1 := HNK.out
      have h2 : kidsN k = 1 := by unfold kidsN; (repeat' split) <;> omega
      omega)
    have HBODY : Hid (bodyT (tellN l f) ⟨k, s, nm, ks⟩ = kidT (tellN l f) ⟨k, s, nm, ks⟩ 0 7 ++ (markT k ++ s)) := Lib.hid (by unfold bodyT; dsimp only; rw [if_neg k1, if_neg k2, if_neg k7, if_pos HKE.out])
    have q1 : (k == 1) = false := by simp; omega
    have q2 : (k == 2) = false := by simp; omega
    have q7 : (k == 7) = false := by simp; omega
    have zc : ¬ 9223372036854775807 < (txt (markT k)).size + (txt s).size := by omega
    have hlt : decide (((7 : Nat) : Int) < (t : Int)) = false := by simp; omega
    have hltN : decide (7 < t) = false := by simp; omega
    have HLT : Hid (¬ levelN k < t) := Lib.hid (by rw [HOW.out]; omega)
    have HL : Hid (o.length + (kidT (tellN l f) ⟨k, s, nm, ks⟩ 0 7 ++ (markT k ++ s)).length ≤ 1099511627776) := Lib.hid (by have h9 := HL0.out; rw [if_neg HLT.out, HBODY.out] at h9; exact h9)
    go_enter_defers Tryd.func30, Tryd.ntmps30
    go_wp2_with (first
      | (go_at_call 55; (refine (LV.out _ (by exact BW3.out)).mono ?_); rintro e w1 ⟨rfl, hb1⟩; have T0 := Lib.hid ((T00.out).keep hb1); clear hb1; obtain ⟨g0, e0, n0, n1, n2, n3⟩ := T0.out.cells)
      | (go_at_call 57; (refine (KD.out _ _ 0 (7) _ _ (by simp) (by simp) (by rw [KL.out]; decide) (by omega) T0.out (by have := HL.out; (try simp only [List.length_append, List.length_cons, List.length_nil] at this ⊢); omega)).mono ?_); rintro e w1 ⟨rfl, h⟩; have T1 := Lib.hid h; clear h; clear g0 e0 n0 n1 n2 n3; obtain ⟨g0, e0, n0, n1, n2, n3⟩ := T1.out.cells; clear T0))
    refine wp_np ?_
    go_region_law (first
      | (go_simp; go_at_call 60; (refine (MK.out _ (by exact HB0.out.2.2.trans (T1.out.drew.low.mono HB0.out.2.1))).mono ?_); rintro e wS ⟨rfl, hbS⟩; have TS0 := Lib.hid (T1.out.drew.keep hbS); obtain ⟨y0, y1, y2, y3, y4, y5⟩ := TS0.out.cells; clear hbS)
      | (go_simp; go_at_call 56; (refine (TS0.out.writeL (markT k ++ s) ((txt_app _ _).symm) (fun x hx => by rcases List.mem_append.1 hx with h | h; exact (mark_len k).2 x h; exact HBS.out x h) (by have := HL.out; (try simp only [List.length_append, List.length_cons, List.length_nil] at this ⊢); omega)).mono ?_); rintro e w2 ⟨rfl, h⟩; have T2 := Lib.hid h; clear h; clear g0 e0 n0 n1 n2 n3; obtain ⟨g0, e0, n0, n1, n2, n3⟩ := T2.out.cells; clear y0 y1 y2 y3 y4 y5 T1 TS0))
    all_goals
      show Leaves Tryd.prog Tryd.f30 _ _ _ _ _
      refine leaves_nil (results_none rfl _ _ _) ?_
      refine ⟨rfl, ?_, T2.out.low, T2.out.kept⟩
      first | rw [if_neg HLT.out, HBODY.out] | rw [HBODY.out]
      have h7 := T2.out.st
      simpa [List.append_assoc] using h7
  · obtain ⟨rfl, hw3⟩ := hlc
    by_cases htt : ow < t
    · have HBODY : Hid (bodyT (tellN l f) ⟨29, s, nm, ks⟩ = [110, 111, 116, 32] ++ kidT (tellN l f) ⟨29, s, nm, ks⟩ 0 3) := Lib.hid (by unfold bodyT; dsimp only; rw [if_neg k1, if_neg k2, if_neg k7, if_neg (by decide), if_pos rfl])
      have KL : Hid (ks.length = 1) := Lib.hid (by
        have h1 := HNK.out
        have h2 : kidsN 29 = 1 := by decide
        omega)
      have q7 : ((ow : Int) == 7) = false := by simp; omega
      have q7N : (ow == 7) = false := by simp; omega
      have hlt : decide ((ow : Int) < (t : Int)) = true := by simp; omega
      have hltN : decide (ow < t) = true := by simp; omega
      have HLT : Hid (levelN 29 < t) := Lib.hid (by rw [HOW.out]; omega)
      clear hw3 htt
      have HL : Hid (o.length + ([40] ++ ([110, 111, 116, 32] ++ kidT (tellN l f) ⟨29, s, nm, ks⟩ 0 3) ++ [41]).length ≤ 1099511627776) := Lib.hid (by have h9 := HL0.out; rw [if_pos HLT.out, HBODY.out] at h9; exact h9)
      go_enter_defers Tryd.func30, Tryd.ntmps30
      go_wp2_with (first
        | (go_at_call 55; (refine (LV.out _ (by exact BW3.out)).mono ?_); rintro e w1 ⟨rfl, hb1⟩; have T0 := Lib.hid ((T00.out).keep hb1); clear hb1; obtain ⟨g0, e0, n0, n1, n2, n3⟩ := T0.out.cells)
        | (go_at_call 56; (refine (T0.out.writeL ([40]) (by decide) (show ∀ n ∈ ([40] : List Nat), n < 256 by decide) (by have := HL.out; (try simp only [List.length_append, List.length_cons, List.length_nil] at this ⊢); omega)).mono ?_); rintro e w1 ⟨rfl, h⟩; have T1 := Lib.hid h; clear h; clear g0 e0 n0 n1 n2 n3; obtain ⟨g0, e0, n0, n1, n2, n3⟩ := T1.out.cells; clear T0)
        | (go_at_call 56; (refine (T1.out.writeL ([110, 111, 116, 32]) (by decide) (show ∀ n ∈ ([110, 111, 116, 32] : List Nat), n < 256 by decide) (by have := HL.out; (try simp only [List.length_append, List.length_cons, List.length_nil] at this ⊢); omega)).mono ?_); rintro e w2 ⟨rfl, h⟩; have T2 := Lib.hid h; clear h; clear g0 e0 n0 n1 n2 n3; obtain ⟨g0, e0, n0, n1, n2, n3⟩ := T2.out.cells; clear T1)
        | (go_at_call 57; (refine (KD.out _ _ 0 (3) _ _ (by simp) (by simp) (by rw [KL.out]; decide) (by omega) T2.out (by have := HL.out; (try simp only [List.length_append, List.length_cons, List.length_nil] at this ⊢); omega)).mono ?_); rintro e w3 ⟨rfl, h⟩; have T3 := Lib.hid h; clear h; clear g0 e0 n0 n1 n2 n3; obtain ⟨g0, e0, n0, n1, n2, n3⟩ := T3.out.cells; clear T2))
      show Leaves Tryd.prog Tryd.f30 _ _ _ _ _
      refine leaves_cons (f := 56) (args := #[.pointer (some ⟨b, 0, none⟩), .string ⟨#[41]⟩]) (by simp) (by simp [go_sem]) ?_
      refine (write_text_d .returning (⟨#[41]⟩ : ByteArray) T3.out.st (by have := HL.out; (try simp only [List.length_append, List.length_cons, List.length_nil] at this ⊢); have hz : (⟨#[41]⟩ : ByteArray).size = 1 := rfl; omega) T3.out.bigY).mono ?_
      rintro e u' w9 ⟨rfl, rfl, h1, h2, h3⟩
      have h8 := T3.out.step h1 h2 h3
      show Leaves Tryd.prog Tryd.f30 _ _ _ _ _
      refine leaves_nil (results_none rfl _ _ _) ?_
      refine ⟨rfl, ?_, h8.low, h8.kept⟩
      first | rw [if_pos HLT.out, HBODY.out] | rw [HBODY.out]
      have h7 := h8.st
      rw [show bs (⟨#[41]⟩ : ByteArray) = [41] by decide] at h7
      simpa [List.append_assoc] using h7
    · have HBODY : Hid (bodyT (tellN l f) ⟨29, s, nm, ks⟩ = [110, 111, 116, 32] ++ kidT (tellN l f) ⟨29, s, nm, ks⟩ 0 3) := Lib.hid (by unfold bodyT; dsimp only; rw [if_neg k1, if_neg k2, if_neg k7, if_neg (by decide), if_pos rfl])
      have KL : Hid (ks.length = 1) := Lib.hid (by
        have h1 := HNK.out
        have h2 : kidsN 29 = 1 := by decide
        omega)
      have q7 : ((ow : Int) == 7) = false := by simp; omega
      have q7N : (ow == 7) = false := by simp; omega
      have hlt : decide ((ow : Int) < (t : Int)) = false := by simp; omega
      have hltN : decide (ow < t) = false := by simp; omega
      have HLT : Hid (¬ levelN 29 < t) := Lib.hid (by rw [HOW.out]; omega)
      clear hw3 htt
      have HL : Hid (o.length + ([110, 111, 116, 32] ++ kidT (tellN l f) ⟨29, s, nm, ks⟩ 0 3).length ≤ 1099511627776) := Lib.hid (by have h9 := HL0.out; rw [if_neg HLT.out, HBODY.out] at h9; exact h9)
      go_enter_defers Tryd.func30, Tryd.ntmps30
      go_wp2_with (first
        | (go_at_call 55; (refine (LV.out _ (by exact BW3.out)).mono ?_); rintro e w1 ⟨rfl, hb1⟩; have T0 := Lib.hid ((T00.out).keep hb1); clear hb1; obtain ⟨g0, e0, n0, n1, n2, n3⟩ := T0.out.cells)
        | (go_at_call 56; (refine (T0.out.writeL ([110, 111, 116, 32]) (by decide) (show ∀ n ∈ ([110, 111, 116, 32] : List Nat), n < 256 by decide) (by have := HL.out; (try simp only [List.length_append, List.length_cons, List.length_nil] at this ⊢); omega)).mono ?_); rintro e w1 ⟨rfl, h⟩; have T1 := Lib.hid h; clear h; clear g0 e0 n0 n1 n2 n3; obtain ⟨g0, e0, n0, n1, n2, n3⟩ := T1.out.cells; clear T0)
        | (go_at_call 57; (refine (KD.out _ _ 0 (3) _ _ (by simp) (by simp) (by rw [KL.out]; decide) (by omega) T1.out (by have := HL.out; (try simp only [List.length_append, List.length_cons, List.length_nil] at this ⊢); omega)).mono ?_); rintro e w2 ⟨rfl, h⟩; have T2 := Lib.hid h; clear h; clear g0 e0 n0 n1 n2 n3; obtain ⟨g0, e0, n0, n1, n2, n3⟩ := T2.out.cells; clear T1))
      show Leaves Tryd.prog Tryd.f30 _ _ _ _ _
      refine leaves_nil (results_none rfl _ _ _) ?_
      refine ⟨rfl, ?_, T2.out.low, T2.out.kept⟩
      first | rw [if_neg HLT.out, HBODY.out] | rw [HBODY.out]
      have h7 := T2.out.st
      simpa [List.append_assoc] using h7
  · obtain ⟨hw6, hk20, hk28⟩ := hlc
    by_cases htt : ow < t
    · by_cases h4 : ow = 4
      · have HBODY : Hid (bodyT (tellN l f) ⟨k, s, nm, ks⟩ = kidT (tellN l f) ⟨k, s, nm, ks⟩ 0 5 ++ (([32] ++ markT k) ++ [32]) ++ kidT (tellN l f) ⟨k, s, nm, ks⟩ 1 (ow + 1)) := Lib.hid (by unfold bodyT; dsimp only; rw [HOW.out, if_neg k1, if_neg k2, if_neg k7, if_neg (by omega), if_neg (by omega), if_pos (by omega), if_pos (by omega)])
        have KL : Hid (ks.length = 2) := Lib.hid (by
          have h1 := HNK.out
          have h2 : kidsN k = 2 := by unfold kidsN; (repeat' split) <;> omega
          omega)
        have q7 : ((ow : Int) == 7) = false := by simp; omega
        have q4 : ((ow : Int) == 4) = true := by simp; omega
        have l7 : decide ((ow : Int) < 7) = true := by simp; omega
        have l7N : decide (ow < 7) = true := by simp; omega
        have q7N : (ow == 7) = false := by simp; omega
        have q4N : (ow == 4) = true := by simp; omega
        have ow0 : (0 : Int) ≤ (ow : Int) := Int.natCast_nonneg _
        have ow9 : (ow : Int) ≤ 9 := by omega
        have q1 : (k == 1) = false := by simp; omega
        have q2 : (k == 2) = false := by simp; omega
        have q7 : (k == 7) = false := by simp; omega
        have q29 : (k == 29) = false := by simp; omega
        have zc1 : ¬ 9223372036854775807 < 1 + (txt (markT k)).size := by omega
        have zc2 : ¬ 9223372036854775807 < 1 + (txt (markT k)).size + 1 := by omega
        have hlt : decide ((ow : Int) < (t : Int)) = true := by simp; omega
        have hltN : decide (ow < t) = true := by simp; omega
        have HLT : Hid (levelN k < t) := Lib.hid (by rw [HOW.out]; omega)
        clear h4 htt
        have HL : Hid (o.length + ([40] ++ (kidT (tellN l f) ⟨k, s, nm, ks⟩ 0 5 ++ (([32] ++ markT k) ++ [32]) ++ kidT (tellN l f) ⟨k, s, nm, ks⟩ 1 (ow + 1)) ++ [41]).length ≤ 1099511627776) := Lib.hid (by have h9 := HL0.out; rw [if_pos HLT.out, HBODY.out] at h9; exact h9)
        go_enter_defers Tryd.func30, Tryd.ntmps30
        go_wp2_with (first
          | (go_at_call 55; (refine (LV.out _ (by exact BW3.out)).mono ?_); rintro e w1 ⟨rfl, hb1⟩; have T0 := Lib.hid ((T00.out).keep hb1); clear hb1; obtain ⟨g0, e0, n0, n1, n2, n3⟩ := T0.out.cells)
          | (go_at_call 56; (refine (T0.out.writeL ([40]) (by decide) (show ∀ n ∈ ([40] : List Nat), n < 256 by decide) (by have := HL.out; (try simp only [List.length_append, List.length_cons, List.length_nil] at this ⊢); omega)).mono ?_); rintro e w1 ⟨rfl, h⟩; have T1 := Lib.hid h; clear h; clear g0 e0 n0 n1 n2 n3; obtain ⟨g0, e0, n0, n1, n2, n3⟩ := T1.out.cells; clear T0)
          | (go_at_call 57; (refine (KD.out _ _ 0 (5) _ _ (by simp) (by simp) (by rw [KL.out]; decide) (by omega) T1.out (by have := HL.out; (try simp only [List.length_append, List.length_cons, List.length_nil] at this ⊢); omega)).mono ?_); rintro e w2 ⟨rfl, h⟩; have T2 := Lib.hid h; clear h; clear g0 e0 n0 n1 n2 n3; obtain ⟨g0, e0, n0, n1, n2, n3⟩ := T2.out.cells; clear T1))
        refine wp_np ?_
        go_region_law (first
          | (go_simp; go_at_call 60; (refine (MK.out _ (by exact HB0.out.2.2.trans (T2.out.drew.low.mono HB0.out.2.1))).mono ?_); rintro e wS ⟨rfl, hbS⟩; have TS0 := Lib.hid (T2.out.drew.keep hbS); obtain ⟨y0, y1, y2, y3, y4, y5⟩ := TS0.out.cells; clear hbS)
          | (go_simp; go_at_call 56; (refine (TS0.out.writeL (([32] ++ markT k) ++ [32]) (by rw [← txt_app, ← txt_app]; rfl) (fun x hx => by rcases List.mem_append.1 hx with h | h; rcases List.mem_append.1 h with h | h; (simp at h; omega); exact (mark_len k).2 x h; (simp at h; omega)) (by have := HL.out; (try simp only [List.length_append, List.length_cons, List.length_nil] at this ⊢); omega)).mono ?_); rintro e w3 ⟨rfl, h⟩; have T3 := Lib.hid h; clear h; clear g0 e0 n0 n1 n2 n3; obtain ⟨g0, e0, n0, n1, n2, n3⟩ := T3.out.cells; clear y0 y1 y2 y3 y4 y5 T2 TS0))
        all_goals
          simp only [noP]
          go_wp2_with (first
            | (go_at_call 57; (refine (KD.out _ _ 1 (ow + 1) _ _ (by simp) (by omega) (by rw [KL.out]; decide) (by omega) T3.out (by have := HL.out; (try simp only [List.length_append, List.length_cons, List.length_nil] at this ⊢); omega)).mono ?_); rintro e w4 ⟨rfl, h⟩; have T4 := Lib.hid h; clear h; clear g0 e0 n0 n1 n2 n3; obtain ⟨g0, e0, n0, n1, n2, n3⟩ := T4.out.cells; clear T3))
          show Leaves Tryd.prog Tryd.f30 _ _ _ _ _
          refine leaves_cons (f := 56) (args := #[.pointer (some ⟨b, 0, none⟩), .string ⟨#[41]⟩]) (by simp) (by simp [go_sem]) ?_
          refine (write_text_d .returning (⟨#[41]⟩ : ByteArray) T4.out.st (by have := HL.out; (try simp only [List.length_append, List.length_cons, List.length_nil] at this ⊢); have hz : (⟨#[41]⟩ : ByteArray).size = 1 := rfl; omega) T4.out.bigY).mono ?_
          rintro e u' w9 ⟨rfl, rfl, h1, h2, h3⟩
          have h8 := T4.out.step h1 h2 h3
          show Leaves Tryd.prog Tryd.f30 _ _ _ _ _
          refine leaves_nil (results_none rfl _ _ _) ?_
          refine ⟨rfl, ?_, h8.low, h8.kept⟩
          first | rw [if_pos HLT.out, HBODY.out] | rw [HBODY.out]
          have h7 := h8.st
          rw [show bs (⟨#[41]⟩ : ByteArray) = [41] by decide] at h7
          simpa [List.append_assoc] using h7
      · have HBODY : Hid (bodyT (tellN l f) ⟨k, s, nm, ks⟩ = kidT (tellN l f) ⟨k, s, nm, ks⟩ 0 ow ++ (([32] ++ markT k) ++ [32]) ++ kidT (tellN l f) ⟨k, s, nm, ks⟩ 1 (ow + 1)) := Lib.hid (by unfold bodyT; dsimp only; rw [HOW.out, if_neg k1, if_neg k2, if_neg k7, if_neg (by omega), if_neg (by omega), if_pos (by omega), if_neg (by omega)])
        have KL : Hid (ks.length = 2) := Lib.hid (by
          have h1 := HNK.out
          have h2 : kidsN k = 2 := by unfold kidsN; (repeat' split) <;> omega
          omega)
        have q7 : ((ow : Int) == 7) = false := by simp; omega
        have q4 : ((ow : Int) == 4) = false := by simp; omega
        have l7 : decide ((ow : Int) < 7) = true := by simp; omega
        have l7N : decide (ow < 7) = true := by simp; omega
        have q7N : (ow == 7) = false := by simp; omega
        have q4N : (ow == 4) = false := by simp; omega
        have ow0 : (0 : Int) ≤ (ow : Int) := Int.natCast_nonneg _
        have ow9 : (ow : Int) ≤ 9 := by omega
        have q1 : (k == 1) = false := by simp; omega
        have q2 : (k == 2) = false := by simp; omega
        have q7 : (k == 7) = false := by simp; omega
        have q29 : (k == 29) = false := by simp; omega
        have zc1 : ¬ 9223372036854775807 < 1 + (txt (markT k)).size := by omega
        have zc2 : ¬ 9223372036854775807 < 1 + (txt (markT k)).size + 1 := by omega
        have hlt : decide ((ow : Int) < (t : Int)) = true := by simp; omega
        have hltN : decide (ow < t) = true := by simp; omega
        have HLT : Hid (levelN k < t) := Lib.hid (by rw [HOW.out]; omega)
        clear h4 htt
        have HL : Hid (o.length + ([40] ++ (kidT (tellN l f) ⟨k, s, nm, ks⟩ 0 ow ++ (([32] ++ markT k) ++ [32]) ++ kidT (tellN l f) ⟨k, s, nm, ks⟩ 1 (ow + 1)) ++ [41]).length ≤ 1099511627776) := Lib.hid (by have h9 := HL0.out; rw [if_pos HLT.out, HBODY.out] at h9; exact h9)
        go_enter_defers Tryd.func30, Tryd.ntmps30
        go_wp2_with (first
          | (go_at_call 55; (refine (LV.out _ (by exact BW3.out)).mono ?_); rintro e w1 ⟨rfl, hb1⟩; have T0 := Lib.hid ((T00.out).keep hb1); clear hb1; obtain ⟨g0, e0, n0, n1, n2, n3⟩ := T0.out.cells)
          | (go_at_call 56; (refine (T0.out.writeL ([40]) (by decide) (show ∀ n ∈ ([40] : List Nat), n < 256 by decide) (by have := HL.out; (try simp only [List.length_append, List.length_cons, List.length_nil] at this ⊢); omega)).mono ?_); rintro e w1 ⟨rfl, h⟩; have T1 := Lib.hid h; clear h; clear g0 e0 n0 n1 n2 n3; obtain ⟨g0, e0, n0, n1, n2, n3⟩ := T1.out.cells; clear T0)
          | (go_at_call 57; (refine (KD.out _ _ 0 (ow) _ _ (by simp) (by simp) (by rw [KL.out]; decide) (by omega) T1.out (by have := HL.out; (try simp only [List.length_append, List.length_cons, List.length_nil] at this ⊢); omega)).mono ?_); rintro e w2 ⟨rfl, h⟩; have T2 := Lib.hid h; clear h; clear g0 e0 n0 n1 n2 n3; obtain ⟨g0, e0, n0, n1, n2, n3⟩ := T2.out.cells; clear T1))
        refine wp_np ?_
        go_region_law (first
          | (go_simp; go_at_call 60; (refine (MK.out _ (by exact HB0.out.2.2.trans (T2.out.drew.low.mono HB0.out.2.1))).mono ?_); rintro e wS ⟨rfl, hbS⟩; have TS0 := Lib.hid (T2.out.drew.keep hbS); obtain ⟨y0, y1, y2, y3, y4, y5⟩ := TS0.out.cells; clear hbS)
          | (go_simp; go_at_call 56; (refine (TS0.out.writeL (([32] ++ markT k) ++ [32]) (by rw [← txt_app, ← txt_app]; rfl) (fun x hx => by rcases List.mem_append.1 hx with h | h; rcases List.mem_append.1 h with h | h; (simp at h; omega); exact (mark_len k).2 x h; (simp at h; omega)) (by have := HL.out; (try simp only [List.length_append, List.length_cons, List.length_nil] at this ⊢); omega)).mono ?_); rintro e w3 ⟨rfl, h⟩; have T3 := Lib.hid h; clear h; clear g0 e0 n0 n1 n2 n3; obtain ⟨g0, e0, n0, n1, n2, n3⟩ := T3.out.cells; clear y0 y1 y2 y3 y4 y5 T2 TS0))
        all_goals
          simp only [noP]
          go_wp2_with (first
            | (go_at_call 57; (refine (KD.out _ _ 1 (ow + 1) _ _ (by simp) (by omega) (by rw [KL.out]; decide) (by omega) T3.out (by have := HL.out; (try simp only [List.length_append, List.length_cons, List.length_nil] at this ⊢); omega)).mono ?_); rintro e w4 ⟨rfl, h⟩; have T4 := Lib.hid h; clear h; clear g0 e0 n0 n1 n2 n3; obtain ⟨g0, e0, n0, n1, n2, n3⟩ := T4.out.cells; clear T3))
          show Leaves Tryd.prog Tryd.f30 _ _ _ _ _
          refine leaves_cons (f := 56) (args := #[.pointer (some ⟨b, 0, none⟩), .string ⟨#[41]⟩]) (by simp) (by simp [go_sem]) ?_
          refine (write_text_d .returning (⟨#[41]⟩ : ByteArray) T4.out.st (by have := HL.out; (try simp only [List.length_append, List.length_cons, List.length_nil] at this ⊢); have hz : (⟨#[41]⟩ : ByteArray).size = 1 := rfl; omega) T4.out.bigY).mono ?_
          rintro e u' w9 ⟨rfl, rfl, h1, h2, h3⟩
          have h8 := T4.out.step h1 h2 h3
          show Leaves Tryd.prog Tryd.f30 _ _ _ _ _
          refine leaves_nil (results_none rfl _ _ _) ?_
          refine ⟨rfl, ?_, h8.low, h8.kept⟩
          first | rw [if_pos HLT.out, HBODY.out] | rw [HBODY.out]
          have h7 := h8.st
          rw [show bs (⟨#[41]⟩ : ByteArray) = [41] by decide] at h7
          simpa [List.append_assoc] using h7
    · by_cases h4 : ow = 4
      · have HBODY : Hid (bodyT (tellN l f) ⟨k, s, nm, ks⟩ = kidT (tellN l f) ⟨k, s, nm, ks⟩ 0 5 ++ (([32] ++ markT k) ++ [32]) ++ kidT (tellN l f) ⟨k, s, nm, ks⟩ 1 (ow + 1)) := Lib.hid (by unfold bodyT; dsimp only; rw [HOW.out, if_neg k1, if_neg k2, if_neg k7, if_neg (by omega), if_neg (by omega), if_pos (by omega), if_pos (by omega)])
        have KL : Hid (ks.length = 2) := Lib.hid (by
          have h1 := HNK.out
          have h2 : kidsN k = 2 := by unfold kidsN; (repeat' split) <;> omega
          omega)
        have q7 : ((ow : Int) == 7) = false := by simp; omega
        have q4 : ((ow : Int) == 4) = true := by simp; omega
        have l7 : decide ((ow : Int) < 7) = true := by simp; omega
        have l7N : decide (ow < 7) = true := by simp; omega
        have q7N : (ow == 7) = false := by simp; omega
        have q4N : (ow == 4) = true := by simp; omega
        have ow0 : (0 : Int) ≤ (ow : Int) := Int.natCast_nonneg _
        have ow9 : (ow : Int) ≤ 9 := by omega
        have q1 : (k == 1) = false := by simp; omega
        have q2 : (k == 2) = false := by simp; omega
        have q7 : (k == 7) = false := by simp; omega
        have q29 : (k == 29) = false := by simp; omega
        have zc1 : ¬ 9223372036854775807 < 1 + (txt (markT k)).size := by omega
        have zc2 : ¬ 9223372036854775807 < 1 + (txt (markT k)).size + 1 := by omega
        have hlt : decide ((ow : Int) < (t : Int)) = false := by simp; omega
        have hltN : decide (ow < t) = false := by simp; omega
        have HLT : Hid (¬ levelN k < t) := Lib.hid (by rw [HOW.out]; omega)
        clear h4 htt
        have HL : Hid (o.length + (kidT (tellN l f) ⟨k, s, nm, ks⟩ 0 5 ++ (([32] ++ markT k) ++ [32]) ++ kidT (tellN l f) ⟨k, s, nm, ks⟩ 1 (ow + 1)).length ≤ 1099511627776) := Lib.hid (by have h9 := HL0.out; rw [if_neg HLT.out, HBODY.out] at h9; exact h9)
        go_enter_defers Tryd.func30, Tryd.ntmps30
        go_wp2_with (first
          | (go_at_call 55; (refine (LV.out _ (by exact BW3.out)).mono ?_); rintro e w1 ⟨rfl, hb1⟩; have T0 := Lib.hid ((T00.out).keep hb1); clear hb1; obtain ⟨g0, e0, n0, n1, n2, n3⟩ := T0.out.cells)
          | (go_at_call 57; (refine (KD.out _ _ 0 (5) _ _ (by simp) (by simp) (by rw [KL.out]; decide) (by omega) T0.out (by have := HL.out; (try simp only [List.length_append, List.length_cons, List.length_nil] at this ⊢); omega)).mono ?_); rintro e w1 ⟨rfl, h⟩; have T1 := Lib.hid h; clear h; clear g0 e0 n0 n1 n2 n3; obtain ⟨g0, e0, n0, n1, n2, n3⟩ := T1.out.cells; clear T0))
        refine wp_np ?_
        go_region_law (first
          | (go_simp; go_at_call 60; (refine (MK.out _ (by exact HB0.out.2.2.trans (T1.out.drew.low.mono HB0.out.2.1))).mono ?_); rintro e wS ⟨rfl, hbS⟩; have TS0 := Lib.hid (T1.out.drew.keep hbS); obtain ⟨y0, y1, y2, y3, y4, y5⟩ := TS0.out.cells; clear hbS)
          | (go_simp; go_at_call 56; (refine (TS0.out.writeL (([32] ++ markT k) ++ [32]) (by rw [← txt_app, ← txt_app]; rfl) (fun x hx => by rcases List.mem_append.1 hx with h | h; rcases List.mem_append.1 h with h | h; (simp at h; omega); exact (mark_len k).2 x h; (simp at h; omega)) (by have := HL.out; (try simp only [List.length_append, List.length_cons, List.length_nil] at this ⊢); omega)).mono ?_); rintro e w2 ⟨rfl, h⟩; have T2 := Lib.hid h; clear h; clear g0 e0 n0 n1 n2 n3; obtain ⟨g0, e0, n0, n1, n2, n3⟩ := T2.out.cells; clear y0 y1 y2 y3 y4 y5 T1 TS0))
        all_goals
          simp only [noP]
          go_wp2_with (first
            | (go_at_call 57; (refine (KD.out _ _ 1 (ow + 1) _ _ (by simp) (by omega) (by rw [KL.out]; decide) (by omega) T2.out (by have := HL.out; (try simp only [List.length_append, List.length_cons, List.length_nil] at this ⊢); omega)).mono ?_); rintro e w3 ⟨rfl, h⟩; have T3 := Lib.hid h; clear h; clear g0 e0 n0 n1 n2 n3; obtain ⟨g0, e0, n0, n1, n2, n3⟩ := T3.out.cells; clear T2))
          show Leaves Tryd.prog Tryd.f30 _ _ _ _ _
          refine leaves_nil (results_none rfl _ _ _) ?_
          refine ⟨rfl, ?_, T3.out.low, T3.out.kept⟩
          first | rw [if_neg HLT.out, HBODY.out] | rw [HBODY.out]
          have h7 := T3.out.st
          simpa [List.append_assoc] using h7
      · have HBODY : Hid (bodyT (tellN l f) ⟨k, s, nm, ks⟩ = kidT (tellN l f) ⟨k, s, nm, ks⟩ 0 ow ++ (([32] ++ markT k) ++ [32]) ++ kidT (tellN l f) ⟨k, s, nm, ks⟩ 1 (ow + 1)) := Lib.hid (by unfold bodyT; dsimp only; rw [HOW.out, if_neg k1, if_neg k2, if_neg k7, if_neg (by omega), if_neg (by omega), if_pos (by omega), if_neg (by omega)])
        have KL : Hid (ks.length = 2) := Lib.hid (by
          have h1 := HNK.out
          have h2 : kidsN k = 2 := by unfold kidsN; (repeat' split) <;> omega
          omega)
        have q7 : ((ow : Int) == 7) = false := by simp; omega
        have q4 : ((ow : Int) == 4) = false := by simp; omega
        have l7 : decide ((ow : Int) < 7) = true := by simp; omega
        have l7N : decide (ow < 7) = true := by simp; omega
        have q7N : (ow == 7) = false := by simp; omega
        have q4N : (ow == 4) = false := by simp; omega
        have ow0 : (0 : Int) ≤ (ow : Int) := Int.natCast_nonneg _
        have ow9 : (ow : Int) ≤ 9 := by omega
        have q1 : (k == 1) = false := by simp; omega
        have q2 : (k == 2) = false := by simp; omega
        have q7 : (k == 7) = false := by simp; omega
        have q29 : (k == 29) = false := by simp; omega
        have zc1 : ¬ 9223372036854775807 < 1 + (txt (markT k)).size := by omega
        have zc2 : ¬ 9223372036854775807 < 1 + (txt (markT k)).size + 1 := by omega
        have hlt : decide ((ow : Int) < (t : Int)) = false := by simp; omega
        have hltN : decide (ow < t) = false := by simp; omega
        have HLT : Hid (¬ levelN k < t) := Lib.hid (by rw [HOW.out]; omega)
        clear h4 htt
        have HL : Hid (o.length + (kidT (tellN l f) ⟨k, s, nm, ks⟩ 0 ow ++ (([32] ++ markT k) ++ [32]) ++ kidT (tellN l f) ⟨k, s, nm, ks⟩ 1 (ow + 1)).length ≤ 1099511627776) := Lib.hid (by have h9 := HL0.out; rw [if_neg HLT.out, HBODY.out] at h9; exact h9)
        go_enter_defers Tryd.func30, Tryd.ntmps30
        go_wp2_with (first
          | (go_at_call 55; (refine (LV.out _ (by exact BW3.out)).mono ?_); rintro e w1 ⟨rfl, hb1⟩; have T0 := Lib.hid ((T00.out).keep hb1); clear hb1; obtain ⟨g0, e0, n0, n1, n2, n3⟩ := T0.out.cells)
          | (go_at_call 57; (refine (KD.out _ _ 0 (ow) _ _ (by simp) (by simp) (by rw [KL.out]; decide) (by omega) T0.out (by have := HL.out; (try simp only [List.length_append, List.length_cons, List.length_nil] at this ⊢); omega)).mono ?_); rintro e w1 ⟨rfl, h⟩; have T1 := Lib.hid h; clear h; clear g0 e0 n0 n1 n2 n3; obtain ⟨g0, e0, n0, n1, n2, n3⟩ := T1.out.cells; clear T0))
        refine wp_np ?_
        go_region_law (first
          | (go_simp; go_at_call 60; (refine (MK.out _ (by exact HB0.out.2.2.trans (T1.out.drew.low.mono HB0.out.2.1))).mono ?_); rintro e wS ⟨rfl, hbS⟩; have TS0 := Lib.hid (T1.out.drew.keep hbS); obtain ⟨y0, y1, y2, y3, y4, y5⟩ := TS0.out.cells; clear hbS)
          | (go_simp; go_at_call 56; (refine (TS0.out.writeL (([32] ++ markT k) ++ [32]) (by rw [← txt_app, ← txt_app]; rfl) (fun x hx => by rcases List.mem_append.1 hx with h | h; rcases List.mem_append.1 h with h | h; (simp at h; omega); exact (mark_len k).2 x h; (simp at h; omega)) (by have := HL.out; (try simp only [List.length_append, List.length_cons, List.length_nil] at this ⊢); omega)).mono ?_); rintro e w2 ⟨rfl, h⟩; have T2 := Lib.hid h; clear h; clear g0 e0 n0 n1 n2 n3; obtain ⟨g0, e0, n0, n1, n2, n3⟩ := T2.out.cells; clear y0 y1 y2 y3 y4 y5 T1 TS0))
        all_goals
          simp only [noP]
          go_wp2_with (first
            | (go_at_call 57; (refine (KD.out _ _ 1 (ow + 1) _ _ (by simp) (by omega) (by rw [KL.out]; decide) (by omega) T2.out (by have := HL.out; (try simp only [List.length_append, List.length_cons, List.length_nil] at this ⊢); omega)).mono ?_); rintro e w3 ⟨rfl, h⟩; have T3 := Lib.hid h; clear h; clear g0 e0 n0 n1 n2 n3; obtain ⟨g0, e0, n0, n1, n2, n3⟩ := T3.out.cells; clear T2))
          show Leaves Tryd.prog Tryd.f30 _ _ _ _ _
          refine leaves_nil (results_none rfl _ _ _) ?_
          refine ⟨rfl, ?_, T3.out.low, T3.out.kept⟩
          first | rw [if_neg HLT.out, HBODY.out] | rw [HBODY.out]
          have h7 := T3.out.st
          simpa [List.append_assoc] using h7
  · obtain ⟨hw8, k29⟩ := hlc
    by_cases k30 : k = 30
    · subst k30
      have HBODY : Hid (bodyT (tellN l f) ⟨30, s, nm, ks⟩ = [105, 102, 32] ++ kidT (tellN l f) ⟨30, s, nm, ks⟩ 0 0 ++ [32, 116, 104, 101, 110, 32] ++ kidT (tellN l f) ⟨30, s, nm, ks⟩ 1 0 ++ [32, 101, 108, 115, 101, 32] ++ kidT (tellN l f) ⟨30, s, nm, ks⟩ 2 0 ++ [32, 101, 110, 100]) := Lib.hid (by unfold bodyT; dsimp only; rw [HOW.out, if_neg k1, if_neg k2, if_neg k7, if_neg (by omega), if_neg (by omega), if_neg (by omega), if_pos rfl])
      have KL : Hid (ks.length = 3) := Lib.hid (by
        have h1 := HNK.out
        have h2 : kidsN 30 = 3 := by decide
        omega)
      have q7 : ((ow : Int) == 7) = false := by simp; omega
      have q7N : (ow == 7) = false := by simp; omega
      have l7 : decide ((ow : Int) < 7) = false := by simp; omega
      have l7N : decide (ow < 7) = false := by simp; omega
      have hlt : decide ((ow : Int) < (t : Int)) = false := by simp; omega
      have hltN : decide (ow < t) = false := by simp; omega
      have HLT : Hid (¬ levelN 30 < t) := Lib.hid (by rw [HOW.out]; omega)
      clear hw8
      have HL : Hid (o.length + ([105, 102, 32] ++ kidT (tellN l f) ⟨30, s, nm, ks⟩ 0 0 ++ [32, 116, 104, 101, 110, 32] ++ kidT (tellN l f) ⟨30, s, nm, ks⟩ 1 0 ++ [32, 101, 108, 115, 101, 32] ++ kidT (tellN l f) ⟨30, s, nm, ks⟩ 2 0 ++ [32, 101, 110, 100]).length ≤ 1099511627776) := Lib.hid (by have h9 := HL0.out; rw [if_neg HLT.out, HBODY.out] at h9; exact h9)
      go_enter_defers Tryd.func30, Tryd.ntmps30
      go_wp2_with (first
        | (go_at_call 55; (refine (LV.out _ (by exact BW3.out)).mono ?_); rintro e w1 ⟨rfl, hb1⟩; have T0 := Lib.hid ((T00.out).keep hb1); clear hb1; obtain ⟨g0, e0, n0, n1, n2, n3⟩ := T0.out.cells)
        | (go_at_call 56; (refine (T0.out.writeL ([105, 102, 32]) (by decide) (show ∀ n ∈ ([105, 102, 32] : List Nat), n < 256 by decide) (by have := HL.out; (try simp only [List.length_append, List.length_cons, List.length_nil] at this ⊢); omega)).mono ?_); rintro e w1 ⟨rfl, h⟩; have T1 := Lib.hid h; clear h; clear g0 e0 n0 n1 n2 n3; obtain ⟨g0, e0, n0, n1, n2, n3⟩ := T1.out.cells; clear T0)
        | (go_at_call 57; (refine (KD.out _ _ 0 (0) _ _ (by simp) (by simp) (by rw [KL.out]; decide) (by omega) T1.out (by have := HL.out; (try simp only [List.length_append, List.length_cons, List.length_nil] at this ⊢); omega)).mono ?_); rintro e w2 ⟨rfl, h⟩; have T2 := Lib.hid h; clear h; clear g0 e0 n0 n1 n2 n3; obtain ⟨g0, e0, n0, n1, n2, n3⟩ := T2.out.cells; clear T1)
        | (go_at_call 56; (refine (T2.out.writeL ([32, 116, 104, 101, 110, 32]) (by decide) (show ∀ n ∈ ([32, 116, 104, 101, 110, 32] : List Nat), n < 256 by decide) (by have := HL.out; (try simp only [List.length_append, List.length_cons, List.length_nil] at this ⊢); omega)).mono ?_); rintro e w3 ⟨rfl, h⟩; have T3 := Lib.hid h; clear h; clear g0 e0 n0 n1 n2 n3; obtain ⟨g0, e0, n0, n1, n2, n3⟩ := T3.out.cells; clear T2)
        | (go_at_call 57; (refine (KD.out _ _ 1 (0) _ _ (by simp) (by simp) (by rw [KL.out]; decide) (by omega) T3.out (by have := HL.out; (try simp only [List.length_append, List.length_cons, List.length_nil] at this ⊢); omega)).mono ?_); rintro e w4 ⟨rfl, h⟩; have T4 := Lib.hid h; clear h; clear g0 e0 n0 n1 n2 n3; obtain ⟨g0, e0, n0, n1, n2, n3⟩ := T4.out.cells; clear T3)
        | (go_at_call 56; (refine (T4.out.writeL ([32, 101, 108, 115, 101, 32]) (by decide) (show ∀ n ∈ ([32, 101, 108, 115, 101, 32] : List Nat), n < 256 by decide) (by have := HL.out; (try simp only [List.length_append, List.length_cons, List.length_nil] at this ⊢); omega)).mono ?_); rintro e w5 ⟨rfl, h⟩; have T5 := Lib.hid h; clear h; clear g0 e0 n0 n1 n2 n3; obtain ⟨g0, e0, n0, n1, n2, n3⟩ := T5.out.cells; clear T4)
        | (go_at_call 57; (refine (KD.out _ _ 2 (0) _ _ (by simp) (by simp) (by rw [KL.out]; decide) (by omega) T5.out (by have := HL.out; (try simp only [List.length_append, List.length_cons, List.length_nil] at this ⊢); omega)).mono ?_); rintro e w6 ⟨rfl, h⟩; have T6 := Lib.hid h; clear h; clear g0 e0 n0 n1 n2 n3; obtain ⟨g0, e0, n0, n1, n2, n3⟩ := T6.out.cells; clear T5)
        | (go_at_call 56; (refine (T6.out.writeL ([32, 101, 110, 100]) (by decide) (show ∀ n ∈ ([32, 101, 110, 100] : List Nat), n < 256 by decide) (by have := HL.out; (try simp only [List.length_append, List.length_cons, List.length_nil] at this ⊢); omega)).mono ?_); rintro e w7 ⟨rfl, h⟩; have T7 := Lib.hid h; clear h; clear g0 e0 n0 n1 n2 n3; obtain ⟨g0, e0, n0, n1, n2, n3⟩ := T7.out.cells; clear T6))
      show Leaves Tryd.prog Tryd.f30 _ _ _ _ _
      refine leaves_nil (results_none rfl _ _ _) ?_
      refine ⟨rfl, ?_, T7.out.low, T7.out.kept⟩
      first | rw [if_neg HLT.out, HBODY.out] | rw [HBODY.out]
      have h7 := T7.out.st
      simpa [List.append_assoc] using h7
    by_cases h31 : 31 ≤ k
    · have HBODY : Hid (bodyT (tellN l f) ⟨k, s, nm, ks⟩ = (((wordT k ++ [32]) ++ s) ++ [32, 105, 110, 32]) ++ kidT (tellN l f) ⟨k, s, nm, ks⟩ 0 0 ++ [58, 32] ++ kidT (tellN l f) ⟨k, s, nm, ks⟩ 1 0 ++ [32, 101, 110, 100]) := Lib.hid (by unfold bodyT; dsimp only; rw [HOW.out, if_neg k1, if_neg k2, if_neg k7, if_neg (by omega), if_neg (by omega), if_neg (by omega), if_neg k30, if_pos h31])
      have hk34 : k ≤ 34 := by
        rcases Int.lt_or_le 34 k with h | h
        · exfalso
          have h1 := HNK.out
          have h2 : kidsN k = -1 := by unfold kidsN; (repeat' split) <;> omega
          omega
        · exact h
      have KL : Hid (ks.length = 2) := Lib.hid (by
        have h1 := HNK.out
        have h2 : kidsN k = 2 := by unfold kidsN; (repeat' split) <;> omega
        omega)
      have q7 : ((ow : Int) == 7) = false := by simp; omega
      have q7N : (ow == 7) = false := by simp; omega
      have l7 : decide ((ow : Int) < 7) = false := by simp; omega
      have l7N : decide (ow < 7) = false := by simp; omega
      have d31 : decide ((31 : Int) ≤ k) = true := by simpa using h31
      have q1 : (k == 1) = false := by simp; omega
      have q2 : (k == 2) = false := by simp; omega
      have q7 : (k == 7) = false := by simp; omega
      have q29 : (k == 29) = false := by simp; omega
      have q30 : (k == 30) = false := by simp; omega
      have zc1 : ¬ 9223372036854775807 < (txt (wordT k)).size + 1 := by omega
      have zc2 : ¬ 9223372036854775807 < (txt (wordT k)).size + 1 + (txt s).size := by omega
      have zc3 : ¬ 9223372036854775807 < (txt (wordT k)).size + 1 + (txt s).size + 4 := by omega
      have hlt : decide ((ow : Int) < (t : Int)) = false := by simp; omega
      have hltN : decide (ow < t) = false := by simp; omega
      have HLT : Hid (¬ levelN k < t) := Lib.hid (by rw [HOW.out]; omega)
      clear hw8
      have HL : Hid (o.length + ((((wordT k ++ [32]) ++ s) ++ [32, 105, 110, 32]) ++ kidT (tellN l f) ⟨k, s, nm, ks⟩ 0 0 ++ [58, 32] ++ kidT (tellN l f) ⟨k, s, nm, ks⟩ 1 0 ++ [32, 101, 110, 100]).length ≤ 1099511627776) := Lib.hid (by have h9 := HL0.out; rw [if_neg HLT.out, HBODY.out] at h9; exact h9)
      go_enter_defers Tryd.func30, Tryd.ntmps30
      go_wp2_with (first
        | (go_at_call 55; (refine (LV.out _ (by exact BW3.out)).mono ?_); rintro e w1 ⟨rfl, hb1⟩; have T0 := Lib.hid ((T00.out).keep hb1); clear hb1; obtain ⟨g0, e0, n0, n1, n2, n3⟩ := T0.out.cells))
      refine wp_np ?_
      go_region_law (first
        | (go_simp; go_at_call 61; (refine (WD.out _ ).mono ?_); rintro e wS ⟨rfl, hbS⟩; have TS0 := Lib.hid (T0.out.drew.keep hbS); obtain ⟨y0, y1, y2, y3, y4, y5⟩ := TS0.out.cells; clear hbS)
        | (go_simp; go_at_call 56; (refine (TS0.out.writeL (((wordT k ++ [32]) ++ s) ++ [32, 105, 110, 32]) (by rw [← txt_app, ← txt_app, ← txt_app]; rfl) (fun x hx => by rcases List.mem_append.1 hx with h | h; rcases List.mem_append.1 h with h | h; rcases List.mem_append.1 h with h | h; exact (word_len k).2 x h; (simp at h; omega); exact HBS.out x h; (simp at h; omega)) (by have := HL.out; (try simp only [List.length_append, List.length_cons, List.length_nil] at this ⊢); omega)).mono ?_); rintro e w1 ⟨rfl, h⟩; have T1 := Lib.hid h; clear h; clear g0 e0 n0 n1 n2 n3; obtain ⟨g0, e0, n0, n1, n2, n3⟩ := T1.out.cells; clear y0 y1 y2 y3 y4 y5 T0 TS0))
      all_goals
        simp only [noP]
        go_wp2_with (first
          | (go_at_call 57; (refine (KD.out _ _ 0 (0) _ _ (by simp) (by simp) (by rw [KL.out]; decide) (by omega) T1.out (by have := HL.out; (try simp only [List.length_append, List.length_cons, List.length_nil] at this ⊢); omega)).mono ?_); rintro e w2 ⟨rfl, h⟩; have T2 := Lib.hid h; clear h; clear g0 e0 n0 n1 n2 n3; obtain ⟨g0, e0, n0, n1, n2, n3⟩ := T2.out.cells; clear T1)
          | (go_at_call 56; (refine (T2.out.writeL ([58, 32]) (by decide) (show ∀ n ∈ ([58, 32] : List Nat), n < 256 by decide) (by have := HL.out; (try simp only [List.length_append, List.length_cons, List.length_nil] at this ⊢); omega)).mono ?_); rintro e w3 ⟨rfl, h⟩; have T3 := Lib.hid h; clear h; clear g0 e0 n0 n1 n2 n3; obtain ⟨g0, e0, n0, n1, n2, n3⟩ := T3.out.cells; clear T2)
          | (go_at_call 57; (refine (KD.out _ _ 1 (0) _ _ (by simp) (by simp) (by rw [KL.out]; decide) (by omega) T3.out (by have := HL.out; (try simp only [List.length_append, List.length_cons, List.length_nil] at this ⊢); omega)).mono ?_); rintro e w4 ⟨rfl, h⟩; have T4 := Lib.hid h; clear h; clear g0 e0 n0 n1 n2 n3; obtain ⟨g0, e0, n0, n1, n2, n3⟩ := T4.out.cells; clear T3)
          | (go_at_call 56; (refine (T4.out.writeL ([32, 101, 110, 100]) (by decide) (show ∀ n ∈ ([32, 101, 110, 100] : List Nat), n < 256 by decide) (by have := HL.out; (try simp only [List.length_append, List.length_cons, List.length_nil] at this ⊢); omega)).mono ?_); rintro e w5 ⟨rfl, h⟩; have T5 := Lib.hid h; clear h; clear g0 e0 n0 n1 n2 n3; obtain ⟨g0, e0, n0, n1, n2, n3⟩ := T5.out.cells; clear T4))
        show Leaves Tryd.prog Tryd.f30 _ _ _ _ _
        refine leaves_nil (results_none rfl _ _ _) ?_
        refine ⟨rfl, ?_, T5.out.low, T5.out.kept⟩
        first | rw [if_neg HLT.out, HBODY.out] | rw [HBODY.out]
        have h7 := T5.out.st
        simpa [List.append_assoc] using h7
    by_cases hkn1 : kn = 1
    · subst hkn1
      have KL : Hid (ks.length = 1) := HKN
      have HBODY : Hid (bodyT (tellN l f) ⟨k, s, nm, ks⟩ = (wordT k ++ [40]) ++ kidT (tellN l f) ⟨k, s, nm, ks⟩ 0 0 ++ [41]) := Lib.hid (by unfold bodyT; dsimp only; rw [HOW.out, if_neg k1, if_neg k2, if_neg k7, if_neg (by omega), if_neg (by omega), if_neg (by omega), if_neg k30, if_neg h31, if_pos KL.out])
      have q7 : ((ow : Int) == 7) = false := by simp; omega
      have q7N : (ow == 7) = false := by simp; omega
      have l7 : decide ((ow : Int) < 7) = false := by simp; omega
      have l7N : decide (ow < 7) = false := by simp; omega
      have d31 : decide ((31 : Int) ≤ k) = false := by simpa using h31
      have q1 : (k == 1) = false := by simp; omega
      have q2 : (k == 2) = false := by simp; omega
      have q7 : (k == 7) = false := by simp; omega
      have q29 : (k == 29) = false := by simp; omega
      have q30 : (k == 30) = false := by simp; omega
      have zc1 : ¬ 9223372036854775807 < (txt (wordT k)).size + 1 := by omega
      have hlt : decide ((ow : Int) < (t : Int)) = false := by simp; omega
      have hltN : decide (ow < t) = false := by simp; omega
      have HLT : Hid (¬ levelN k < t) := Lib.hid (by rw [HOW.out]; omega)
      clear hw8
      have HL : Hid (o.length + ((wordT k ++ [40]) ++ kidT (tellN l f) ⟨k, s, nm, ks⟩ 0 0 ++ [41]).length ≤ 1099511627776) := Lib.hid (by have h9 := HL0.out; rw [if_neg HLT.out, HBODY.out] at h9; exact h9)
      go_enter_defers Tryd.func30, Tryd.ntmps30
      go_wp2_with (first
        | (go_at_call 55; (refine (LV.out _ (by exact BW3.out)).mono ?_); rintro e w1 ⟨rfl, hb1⟩; have T0 := Lib.hid ((T00.out).keep hb1); clear hb1; obtain ⟨g0, e0, n0, n1, n2, n3⟩ := T0.out.cells))
      refine wp_np ?_
      go_region_law (first
        | (go_simp; go_at_call 61; (refine (WD.out _ ).mono ?_); rintro e wS ⟨rfl, hbS⟩; have TS0 := Lib.hid (T0.out.drew.keep hbS); obtain ⟨y0, y1, y2, y3, y4, y5⟩ := TS0.out.cells; clear hbS)
        | (go_simp; go_at_call 56; (refine (TS0.out.writeL (wordT k ++ [40]) (by rw [← txt_app]; rfl) (fun x hx => by rcases List.mem_append.1 hx with h | h; exact (word_len k).2 x h; (simp at h; omega)) (by have := HL.out; (try simp only [List.length_append, List.length_cons, List.length_nil] at this ⊢); omega)).mono ?_); rintro e w1 ⟨rfl, h⟩; have T1 := Lib.hid h; clear h; clear g0 e0 n0 n1 n2 n3; obtain ⟨g0, e0, n0, n1, n2, n3⟩ := T1.out.cells; clear y0 y1 y2 y3 y4 y5 T0 TS0))
      all_goals
        simp only [noP]
        go_wp2_with (first
          | (go_at_call 57; (refine (KD.out _ _ 0 (0) _ _ (by simp) (by simp) (by rw [KL.out]; decide) (by omega) T1.out (by have := HL.out; (try simp only [List.length_append, List.length_cons, List.length_nil] at this ⊢); omega)).mono ?_); rintro e w2 ⟨rfl, h⟩; have T2 := Lib.hid h; clear h; clear g0 e0 n0 n1 n2 n3; obtain ⟨g0, e0, n0, n1, n2, n3⟩ := T2.out.cells; clear T1)
          | (go_at_call 56; (refine (T2.out.writeL ([41]) (by decide) (show ∀ n ∈ ([41] : List Nat), n < 256 by decide) (by have := HL.out; (try simp only [List.length_append, List.length_cons, List.length_nil] at this ⊢); omega)).mono ?_); rintro e w3 ⟨rfl, h⟩; have T3 := Lib.hid h; clear h; clear g0 e0 n0 n1 n2 n3; obtain ⟨g0, e0, n0, n1, n2, n3⟩ := T3.out.cells; clear T2))
        show Leaves Tryd.prog Tryd.f30 _ _ _ _ _
        refine leaves_nil (results_none rfl _ _ _) ?_
        refine ⟨rfl, ?_, T3.out.low, T3.out.kept⟩
        first | rw [if_neg HLT.out, HBODY.out] | rw [HBODY.out]
        have h7 := T3.out.st
        simpa [List.append_assoc] using h7
    have HBODY : Hid (bodyT (tellN l f) ⟨k, s, nm, ks⟩ = wordT k) := Lib.hid (by unfold bodyT; dsimp only; rw [HOW.out, if_neg k1, if_neg k2, if_neg k7, if_neg (by omega), if_neg (by omega), if_neg (by omega), if_neg k30, if_neg h31, if_neg (by rw [HKN.out]; exact hkn1)])
    have q7 : ((ow : Int) == 7) = false := by simp; omega
    have q7N : (ow == 7) = false := by simp; omega
    have l7 : decide ((ow : Int) < 7) = false := by simp; omega
    have l7N : decide (ow < 7) = false := by simp; omega
    have d31 : decide ((31 : Int) ≤ k) = false := by simpa using h31
    have qn : ((kn : Int) == 1) = false := by simp; omega
    have q1 : (k == 1) = false := by simp; omega
    have q2 : (k == 2) = false := by simp; omega
    have q7 : (k == 7) = false := by simp; omega
    have q29 : (k == 29) = false := by simp; omega
    have q30 : (k == 30) = false := by simp; omega
    have hlt : decide ((ow : Int) < (t : Int)) = false := by simp; omega
    have hltN : decide (ow < t) = false := by simp; omega
    have HLT : Hid (¬ levelN k < t) := Lib.hid (by rw [HOW.out]; omega)
    clear hw8
    have HL : Hid (o.length + (wordT k).length ≤ 1099511627776) := Lib.hid (by have h9 := HL0.out; rw [if_neg HLT.out, HBODY.out] at h9; exact h9)
    go_enter_defers Tryd.func30, Tryd.ntmps30
    go_wp2_with (first
      | (go_at_call 55; (refine (LV.out _ (by exact BW3.out)).mono ?_); rintro e w1 ⟨rfl, hb1⟩; have T0 := Lib.hid ((T00.out).keep hb1); clear hb1; obtain ⟨g0, e0, n0, n1, n2, n3⟩ := T0.out.cells))
    refine wp_np ?_
    go_region_law (first
      | (go_simp; go_at_call 61; (refine (WD.out _ ).mono ?_); rintro e wS ⟨rfl, hbS⟩; have TS0 := Lib.hid (T0.out.drew.keep hbS); obtain ⟨y0, y1, y2, y3, y4, y5⟩ := TS0.out.cells; clear hbS)
      | (go_simp; go_at_call 56; (refine (TS0.out.writeL (wordT k) (rfl) ((word_len k).2) (by have := HL.out; (try simp only [List.length_append, List.length_cons, List.length_nil] at this ⊢); omega)).mono ?_); rintro e w1 ⟨rfl, h⟩; have T1 := Lib.hid h; clear h; clear g0 e0 n0 n1 n2 n3; obtain ⟨g0, e0, n0, n1, n2, n3⟩ := T1.out.cells; clear y0 y1 y2 y3 y4 y5 T0 TS0))
    all_goals
      show Leaves Tryd.prog Tryd.f30 _ _ _ _ _
      refine leaves_nil (results_none rfl _ _ _) ?_
      refine ⟨rfl, ?_, T1.out.low, T1.out.kept⟩
      first | rw [if_neg HLT.out, HBODY.out] | rw [HBODY.out]
      have h7 := T1.out.st
      exact h7
end Go.Proofs.YtlenenfgedgmhaaDoor
