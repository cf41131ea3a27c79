/- - -/
import Derived.Test.YtpkggobhhieeoaaDoorKTpY
set_option maxRecDepth 100000
set_option maxHeartbeats 32000000
set_option linter.unusedSimpArgs false
set_option linter.unusedVariables false
namespace Go.Proofs.YtpkggobhhieeoaaDoor
open Go.RowKit Go.ChangeShapes Go.WideShapes Go.ChangeAt
theorem own : ownKnob Tryd.prog.godebug = none := by kernel_rfl
theorem laidOut : laidOutB Tryd.prog = true := by kernel_rfl
theorem gM : Tryd.prog.globalNamed "topiary/lex.marks" = some 0 := by kernel_rfl
theorem gMT : (Tryd.prog.globals[0]?).map (·.type) = some 135 := by kernel_rfl
theorem cellsM : Tryd.prog.cellsOf 135 = 16 := by kernel_rfl
theorem cellsS : Tryd.prog.cellsOf 9 = 1 := by kernel_rfl
theorem cells_of_texts {H : Type} {enc : TypeId × Value → H} {P : Program} {w : World} {base : Nat} {sp : Nat → Bool} {held : Bool} {fuel : Nat} {t e : TypeId} {n : Nat} {cs : List Value} {zs : List (List UInt8)} {p : List MemPlace}
    (ht : P.underlying t = some (.array n e)) (he : P.underlying e = some .string) (hce : P.cellsOf e = 1) (hct : P.cellsOf t = n)
    (h : DataW.trod enc P w base sp held fuel t cs = some (.agg (zs.map fun z => .lit (.string z)), p)) : cs = zs.map fun z => Value.string ⟨z.toArray⟩ := by
  cases fuel with
  | zero => simp [DataW.trod] at h
  | succ fuel =>
    simp only [DataW.trod, ht, hce, hct, Nat.mul_one] at h
    split at h
    · rename_i hl
      obtain ⟨xs, hm, hx⟩ := Option.map_eq_some_iff.1 h
      have hxs : xs.map (·.1) = zs.map fun z => (DataW.lit (.string z) : DataW H) := by
        have := congrArg Prod.fst hx
        simpa using this
      have hxl : xs.length = n := by simpa using Lib.mapM_length hm
      have hzl : zs.length = n := by
        have := congrArg List.length hxs
        simp at this
        omega
      apply List.ext_getElem?
      intro i
      by_cases hi : i < n
      · obtain ⟨b, hb, hf⟩ := Lib.mapM_at hm i i (by simp [hi])
        obtain ⟨z, hc, rfl, _⟩ := DataW.trod_string he hf
        have h1 : cs[i]? = some (.string z) := by
          have := congrArg (·[0]?) hc
          simpa [List.getElem?_take, List.getElem?_drop] using this
        have h2 : (xs.map (·.1))[i]? = some (DataW.lit (.string z.data.toList) : DataW H) := by simp [hb]
        rw [hxs] at h2
        simp only [List.getElem?_map, Option.map_eq_some_iff, DataW.lit.injEq, Lit.string.injEq] at h2
        obtain ⟨z', hz', rfl⟩ := h2
        simp [h1, hz']
      · rw [List.getElem?_eq_none (by omega), List.getElem?_eq_none (by simp; omega)]
    · cases h
theorem marks_head {W : World} {rest : List (String × DataW Unit)} (h : laidMet Tryd.prog (("topiary/lex.marks", Rows.laid_topiary_lex_marks) :: rest) W) : Marks W := by
  obtain ⟨ps, ⟨g', t', cs, fuel, p, q, hg', ht', hvar, hd, _, _⟩, _⟩ := h
  obtain rfl := Option.some.inj (gM.symm.trans hg')
  obtain rfl := Option.some.inj (gMT.symm.trans ht')
  have hd' : DataW.trod (fun _ => ()) Tryd.prog W 0 (fun _ => true) false fuel 135 cs.toList = some (.agg ((marksL.map fun m => m.map UInt8.ofNat).map fun z => .lit (.string z)), p) := hd
  have := cells_of_texts Tryd.underlying135 Tryd.underlying9 cellsS cellsM hd'
  unfold Marks
  rw [hvar]
  congr 1
  apply Array.toList_inj.1
  rw [this]
  rfl
theorem gS : Tryd.prog.globalNamed "topiary/expr.signs" = some 4 := by kernel_rfl
theorem gST : (Tryd.prog.globals[4]?).map (·.type) = some 148 := by kernel_rfl
theorem cellsSA : Tryd.prog.cellsOf 148 = 45 := by kernel_rfl
theorem cellsSG : Tryd.prog.cellsOf 137 = 3 := by kernel_rfl
theorem cellsI : Tryd.prog.cellsOf 3 = 1 := by kernel_rfl
theorem chunks {α β : Type} (f : β → List α) : ∀ (L : List β) (cs : List α), cs.length = L.length * 3 → (∀ i y, L[i]? = some y → (cs.drop (i * 3)).take 3 = f y) → cs = (L.map f).flatten
  | [], cs, hl, _ => by
    have : cs = [] := List.eq_nil_of_length_eq_zero (by simpa using hl)
    subst this
    rfl
  | y :: L, cs, hl, h => by
    have h0 := h 0 y rfl
    rw [Nat.zero_mul, List.drop_zero] at h0
    have ih := chunks f L (cs.drop 3) (by rw [List.length_drop, hl, List.length_cons]; omega) (fun i z hz => by
      have := h (i + 1) z hz
      rw [List.drop_drop]
      rwa [show (i + 1) * 3 = 3 + i * 3 by omega] at this)
    rw [List.map_cons, List.flatten_cons, ← h0, ← ih, List.take_append_drop]
theorem cells_of_sign {H : Type} {enc : TypeId × Value → H} {w : World} {base : Nat} {sp : Nat → Bool} {held : Bool} {fuel : Nat} {cs : List Value} {z : List UInt8} {a b : Int} {p : List MemPlace}
    (h : DataW.trod enc Tryd.prog w base sp held fuel 137 cs = some (.agg [.lit (.string z), .lit (.int .i64 a), .lit (.int .i64 b)], p)) : cs = [.string ⟨z.toArray⟩, .int .i64 a, .int .i64 b] := by
  obtain ⟨y0, y1, y2, n, he, hl, h0, h1, h2⟩ := Go.Deep.trod_struct3 Tryd.underlying137 h
  rw [cellsSG] at hl
  obtain ⟨c0, c1, c2, rfl⟩ : ∃ c0 c1 c2, cs = [c0, c1, c2] := by
    match cs, hl with
    | [c0, c1, c2], _ => exact ⟨c0, c1, c2, rfl⟩
  simp only at h0 h1 h2
  obtain ⟨s0, e0, g0, _⟩ := DataW.trod_string Tryd.underlying9 h0
  obtain ⟨s1, e1, g1, _⟩ := DataW.trod_int Tryd.underlying3 h1
  obtain ⟨s2, e2, g2, _⟩ := DataW.trod_int Tryd.underlying3 h2
  rw [cellsS] at e0
  rw [cellsI] at e1 e2
  simp at e0 e1 e2
  subst e0 e1 e2 g0 g1 g2
  injection he with he _
  injection he with he
  injection he with k0 he
  injection he with k1 he
  injection he with k2 _
  injection k0 with k0
  injection k0 with k0
  injection k1 with k1
  injection k1 with _ k1
  injection k2 with k2
  injection k2 with _ k2
  subst k0 k1 k2
  simp
theorem signs_head {W : World} {rest : List (String × DataW Unit)} (h : laidMet Tryd.prog (("topiary/expr.signs", Rows.laid_topiary_expr_signs) :: rest) W) : Signs W := by
  obtain ⟨ps, ⟨g', t', cs, fuel, p, q, hg', ht', hvar, hd, _, _⟩, _⟩ := h
  obtain rfl := Option.some.inj (gS.symm.trans hg')
  obtain rfl := Option.some.inj (gST.symm.trans ht')
  have hd' : DataW.trod (fun _ => ()) Tryd.prog W 0 (fun _ => true) false fuel 148 cs.toList = some (.agg (signsL.map fun x => .agg [.lit (.string (x.1.map UInt8.ofNat)), .lit (.int .i64 (x.2.1 : Int)), .lit (.int .i64 (x.2.2 : Int))]), p) := hd
  obtain ⟨xs, m, _, hx, hl, hxl, hat⟩ := DataW.trod_array Tryd.underlying148 hd'
  injection hx with hx _
  injection hx with hx
  rw [cellsSA] at hl
  have hc : cs.toList = (signsL.map fun x => [Value.string (txt x.1), .int .i64 (x.2.1 : Int), .int .i64 (x.2.2 : Int)]).flatten := by
    refine chunks _ _ _ (by rw [hl]; rfl) (fun i y hy => ?_)
    have hi : i < 15 := (List.getElem?_eq_some_iff.1 hy).1
    have h1 := hat i hi
    rw [cellsSG] at h1
    have h2 : (xs.map (·.1))[i]? = some (.agg [.lit (.string (y.1.map UInt8.ofNat)), .lit (.int .i64 (y.2.1 : Int)), .lit (.int .i64 (y.2.2 : Int))]) := by rw [← hx, List.getElem?_map, hy]; rfl
    rw [List.getElem?_map] at h2
    obtain ⟨x, hxi, hx1⟩ := Option.map_eq_some_iff.1 h2
    rw [hxi] at h1
    obtain ⟨x1, x2⟩ := x
    simp only at hx1
    subst hx1
    exact cells_of_sign h1
  unfold Signs
  rw [hvar]
  congr 1
  apply Array.toList_inj.1
  rw [hc]
  rfl
theorem marks_of {W : World} (h : laidMetH Tryd.prog Rows.templBackRow.laid W) : Marks W ∧ Signs W := by
  have h1 : laidMet Tryd.prog Rows.templBackRow.laid W := h
  exact ⟨marks_head (rest := [("topiary/expr.signs", Rows.laid_topiary_expr_signs), ("unicode/utf8.first", Rows.laid_unicode_utf8_first)]) h1.tail, signs_head (rest := [("unicode/utf8.first", Rows.laid_unicode_utf8_first)]) h1.tail.tail⟩
noncomputable def laidWorld (os : Os) : World :=
  let w0 := World.holding Tryd.prog os ⟨#[], #[], []⟩
  { w0 with heap := (((w0.heap.modify 0 fun
      | .cells _ t frozen => .cells marksV t frozen
      | o => o).modify 4 fun
      | .cells _ t frozen => .cells signsV t frozen
      | o => o).modify 2 fun
      | .cells _ t frozen => .cells (Pinned.utf8FirstZ.map fun (z : Nat) => Value.int .u8 (z : Int)).toArray t frozen
      | o => o).modify 3 fun
      | .cells _ t frozen => .cells #[.int .u8 128, .int .u8 191, .int .u8 160, .int .u8 191, .int .u8 128, .int .u8 159, .int .u8 144, .int .u8 191, .int .u8 128, .int .u8 143, .int .u8 0, .int .u8 0, .int .u8 0, .int .u8 0, .int .u8 0, .int .u8 0, .int .u8 0, .int .u8 0, .int .u8 0, .int .u8 0, .int .u8 0, .int .u8 0, .int .u8 0, .int .u8 0, .int .u8 0, .int .u8 0, .int .u8 0, .int .u8 0, .int .u8 0, .int .u8 0, .int .u8 0, .int .u8 0] t frozen
      | o => o }
theorem laid_met (os : Os) (args : Array Value) : laidMet Tryd.prog Rows.templBackRow.laid ((laidWorld os).forCall (fun _ _ => 0) ⟨#[], args, []⟩).memory :=
  laidMet_of_run' 8 (by kernel_rfl) (by kernel_rfl)
end Go.Proofs.YtpkggobhhieeoaaDoor
