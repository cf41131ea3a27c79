/- What the list of variables of chapter 09's rows gives, and one start that fits it. -/
import Derived.Test.YtidkbodmiegbkaaGreatDoorKzD
import Derived.Test.YtidkbodmiegbkaaGreatDoorMDoorC
namespace Go.Proofs.YtidkbodmiegbkaaGreatDoor
set_option linter.unusedSimpArgs false
set_option linter.unusedVariables false
open Go.RowKit Go.ChangeShapes Go.WideShapes Go.ChangeAt

theorem gPk : Tryz.prog.globalNamed "internal/strconv.uint64pow10" = some 3 := by kernel_rfl
theorem gPkT : (Tryz.prog.globals[3]?).map (·.type) = some 155 := by kernel_rfl
theorem cellsPk : Tryz.prog.cellsOf 155 = 20 := by kernel_rfl
theorem cellsUk : Tryz.prog.cellsOf 95 = 1 := by kernel_rfl
theorem cellsSk : Tryz.prog.cellsOf 9 = 1 := by kernel_rfl
theorem gMk : Tryz.prog.globalNamed "topiary/lex.marks" = some 1 := by kernel_rfl
theorem gMkT : (Tryz.prog.globals[1]?).map (·.type) = some 130 := by kernel_rfl
theorem cellsMk : Tryz.prog.cellsOf 130 = 16 := by kernel_rfl
theorem gTk : Tryz.prog.globalNamed "topiary/kinds.takes" = some 0 := by kernel_rfl
theorem gTkT : (Tryz.prog.globals[0]?).map (·.type) = some 109 := by kernel_rfl
theorem cellsTk : Tryz.prog.cellsOf 109 = 35 * 3 := by kernel_rfl
theorem cells3k : Tryz.prog.cellsOf 108 = 3 := by kernel_rfl
theorem cells3k1 : Tryz.prog.cellsOf 108 = 3 * 1 := by kernel_rfl
theorem cellsIk : Tryz.prog.cellsOf 3 = 1 := by kernel_rfl
theorem marks_headK {W : World} {rest : List (String × DataW Unit)} (h : laidMet Tryz.prog (("topiary/lex.marks", Rows.laid_topiary_lex_marks) :: rest) W) : Marks W := by
  obtain ⟨ps, ⟨g', t', cs, fuel, p, q, hg', ht', hvar, hd, _, _⟩, _⟩ := h
  obtain rfl := Option.some.inj (gMk.symm.trans hg')
  obtain rfl := Option.some.inj (gMkT.symm.trans ht')
  have hd' : DataW.trod (fun _ => ()) Tryz.prog W 0 (fun _ => true) false fuel 130 cs.toList = some (.agg ((marksL.map fun m => m.map UInt8.ofNat).map fun z => .lit (.string z)), p) := hd
  have := cells_of_texts Tryz.underlying130 Tryz.underlying9 cellsSk cellsMk hd'
  unfold Marks
  rw [hvar]
  congr 1
  apply Array.toList_inj.1
  rw [this]
  rfl
/-- an array's elements, one by one -/
theorem cells_of_arr {H : Type} {enc : TypeId × Value → H} {P : Program} {w : World} {base : Nat} {sp : Nat → Bool} {held : Bool} {fuel : Nat} {t e : TypeId} {n k : Nat} {cs : List Value} {ds : List (DataW H)} {p : List MemPlace}
    (ht : P.underlying t = some (.array n e)) (hce : P.cellsOf e = k) (hct : P.cellsOf t = n * k)
    (h : DataW.trod enc P w base sp held fuel t cs = some (.agg ds, p)) : ∃ fuel', cs.length = n * k ∧ ∀ i, i < n → ∃ x q, ds[i]? = some x ∧ DataW.trod enc P w base sp held fuel' e ((cs.drop (i * k)).take k) = some (x, q) := by
  cases fuel with
  | zero => simp [DataW.trod] at h
  | succ fuel =>
    simp only [DataW.trod, ht, hce, hct] at h
    split at h
    · rename_i hl
      obtain ⟨xs, hm, hx⟩ := Option.map_eq_some_iff.1 h
      have hxs : xs.map (·.1) = ds := by
        have := congrArg Prod.fst hx
        simpa using this
      have hxl : xs.length = n := by simpa using Lib.mapM_length hm
      refine ⟨fuel, hl, fun i hi => ?_⟩
      obtain ⟨b, hb, hf⟩ := Lib.mapM_at hm i i (by simp [hi])
      exact ⟨b.1, b.2, by rw [← hxs]; simp [hb], hf⟩
    · cases h
theorem flat_rows {X : Type} (f : X → List Value) (hf : ∀ x, (f x).length = 3) : ∀ (T : List X) (cs : List Value), cs.length = T.length * 3 → (∀ i x, T[i]? = some x → (cs.drop (i * 3)).take 3 = f x) → cs = T.flatMap f
  | [], cs, hl, _ => by simpa using hl
  | x :: T, cs, hl, h => by
    have h0 := h 0 x rfl
    simp only [Nat.zero_mul, List.drop_zero] at h0
    have hr := flat_rows f hf T (cs.drop 3) (by simp only [List.length_drop, List.length_cons] at hl ⊢; omega) (fun i y hy => by
      rw [List.drop_drop]
      have := h (i + 1) y hy
      rwa [show (i + 1) * 3 = 3 + i * 3 by omega] at this)
    rw [List.flatMap_cons, ← h0, ← hr, List.take_append_drop]
theorem takes_headK {W : World} {rest : List (String × DataW Unit)} (h : laidMet Tryz.prog (("topiary/kinds.takes", Rows.laid_topiary_kinds_takes) :: rest) W) : TakesB W := by
  obtain ⟨ps, ⟨g', t', cs, fuel, p, q, hg', ht', hvar, hd, _, _⟩, _⟩ := h
  obtain rfl := Option.some.inj (gTk.symm.trans hg')
  obtain rfl := Option.some.inj (gTkT.symm.trans ht')
  have hd' : DataW.trod (fun _ => ()) Tryz.prog W 0 (fun _ => true) false fuel 109 cs.toList = some (.agg (takesL.map fun x => .agg [.lit (.int .i64 x.1), .lit (.int .i64 x.2.1), .lit (.int .i64 x.2.2)]), p) := hd
  obtain ⟨f1, hl, hrow⟩ := cells_of_arr Tryz.underlying109 cells3k cellsTk hd'
  have hall : cs.toList = takesL.flatMap fun x => [Value.int .i64 x.1, Value.int .i64 x.2.1, Value.int .i64 x.2.2] := by
    refine flat_rows _ (fun _ => rfl) _ _ (by rw [hl]; rfl) (fun i x hx => ?_)
    have hi : i < 35 := by have := (List.getElem?_eq_some_iff.1 hx).1; exact this
    obtain ⟨y, q', hy, ht⟩ := hrow i hi
    rw [List.getElem?_map, hx] at hy
    obtain rfl := Option.some.inj hy
    obtain ⟨f2, hl2, hc⟩ := cells_of_arr Tryz.underlying108 cellsIk cells3k1 ht
    have atz : ∀ j (z : Int), j < 3 → ([.lit (.int .i64 x.1), .lit (.int .i64 x.2.1), .lit (.int .i64 x.2.2)] : List (DataW Unit))[j]? = some (.lit (.int .i64 z)) → ((cs.toList.drop (i * 3)).take 3)[j]? = some (.int .i64 z) := fun j z hj hz => by
      obtain ⟨y, q2, hy, ht2⟩ := hc j hj
      obtain ⟨s, hs, hd2, _⟩ := DataW.trod_int Tryz.underlying3 ht2
      rw [hz] at hy
      obtain rfl := Option.some.inj hy
      obtain ⟨rfl, _⟩ : z = s ∧ q2 = [] := by simpa using hd2
      have := congrArg (·[0]?) hs
      simpa [List.getElem?_take, List.getElem?_drop] using this
    apply List.ext_getElem?
    intro j
    by_cases hj : j < 3
    · rcases (by omega : j = 0 ∨ j = 1 ∨ j = 2) with rfl | rfl | rfl
      · exact atz 0 _ hj rfl
      · exact atz 1 _ hj rfl
      · exact atz 2 _ hj rfl
    · rw [List.getElem?_eq_none (by omega), List.getElem?_eq_none (by simp; omega)]
  have hcs : cs = takesV := by
    apply Array.toList_inj.1
    rw [hall]
    rfl
  subst hcs
  unfold World.var? at hvar
  rw [gTk] at hvar
  simp only [Option.bind_some] at hvar
  unfold TakesB
  split at hvar
  · rename_i cs t fr e
    injection hvar with hvar
    subst hvar
    exact ⟨t, fr, e⟩
  · cases hvar
theorem gS : Tryz.prog.globalNamed "topiary/expr.signs" = some 2 := by kernel_rfl
theorem gST : (Tryz.prog.globals[2]?).map (·.type) = some 144 := by kernel_rfl
theorem cellsSA : Tryz.prog.cellsOf 144 = 45 := by kernel_rfl
theorem cellsSG : Tryz.prog.cellsOf 132 = 3 := by kernel_rfl
theorem chunks {α β : Type} (f : β → List α) : ∀ (L : List β) (cs : List α), cs.length = L.length * 3 → (∀ i y, L[i]? = some y → (cs.drop (i * 3)).take 3 = f y) → cs = (L.map f).flatten
  | [], cs, hl, _ => by
    have : cs = [] := List.eq_nil_of_length_eq_zero (by simpa using hl)
    subst this
    rfl
  | y :: L, cs, hl, h => by
    have h0 := h 0 y rfl
    rw [Nat.zero_mul, List.drop_zero] at h0
    have ih := chunks f L (cs.drop 3) (by rw [List.length_drop, hl, List.length_cons]; omega) (fun i z hz => by
      have := h (i + 1) z hz
      rw [List.drop_drop]
      rwa [show (i + 1) * 3 = 3 + i * 3 by omega] at this)
    rw [List.map_cons, List.flatten_cons, ← h0, ← ih, List.take_append_drop]
set_option maxRecDepth 100000 in
theorem cells_of_sign {H : Type} {enc : TypeId × Value → H} {w : World} {base : Nat} {sp : Nat → Bool} {held : Bool} {fuel : Nat} {cs : List Value} {z : List UInt8} {a b : Int} {p : List MemPlace}
    (h : DataW.trod enc Tryz.prog w base sp held fuel 132 cs = some (.agg [.lit (.string z), .lit (.int .i64 a), .lit (.int .i64 b)], p)) : cs = [.string ⟨z.toArray⟩, .int .i64 a, .int .i64 b] := by
  obtain ⟨y0, y1, y2, n, he, hl, h0, h1, h2⟩ := Go.Deep.trod_struct3 Tryz.underlying132 h
  rw [cellsSG] at hl
  obtain ⟨c0, c1, c2, rfl⟩ : ∃ c0 c1 c2, cs = [c0, c1, c2] := by
    match cs, hl with
    | [c0, c1, c2], _ => exact ⟨c0, c1, c2, rfl⟩
  simp only at h0 h1 h2
  obtain ⟨s0, e0, g0, _⟩ := DataW.trod_string Tryz.underlying9 h0
  obtain ⟨s1, e1, g1, _⟩ := DataW.trod_int Tryz.underlying3 h1
  obtain ⟨s2, e2, g2, _⟩ := DataW.trod_int Tryz.underlying3 h2
  rw [cellsSk] at e0
  rw [cellsIk] at e1 e2
  simp at e0 e1 e2
  subst e0 e1 e2 g0 g1 g2
  injection he with he _
  injection he with he
  injection he with k0 he
  injection he with k1 he
  injection he with k2 _
  injection k0 with k0
  injection k0 with k0
  injection k1 with k1
  injection k1 with _ k1
  injection k2 with k2
  injection k2 with _ k2
  subst k0 k1 k2
  simp
theorem signs_head {W : World} {rest : List (String × DataW Unit)} (h : laidMet Tryz.prog (("topiary/expr.signs", Rows.laid_topiary_expr_signs) :: rest) W) : Signs W := by
  obtain ⟨ps, ⟨g', t', cs, fuel, p, q, hg', ht', hvar, hd, _, _⟩, _⟩ := h
  obtain rfl := Option.some.inj (gS.symm.trans hg')
  obtain rfl := Option.some.inj (gST.symm.trans ht')
  have hd' : DataW.trod (fun _ => ()) Tryz.prog W 0 (fun _ => true) false fuel 144 cs.toList = some (.agg (signsL.map fun x => .agg [.lit (.string (x.1.map UInt8.ofNat)), .lit (.int .i64 (x.2.1 : Int)), .lit (.int .i64 (x.2.2 : Int))]), p) := hd
  obtain ⟨xs, m, _, hx, hl, hxl, hat⟩ := DataW.trod_array Tryz.underlying144 hd'
  injection hx with hx _
  injection hx with hx
  rw [cellsSA] at hl
  have hc : cs.toList = (signsL.map fun x => [Value.string (txt x.1), .int .i64 (x.2.1 : Int), .int .i64 (x.2.2 : Int)]).flatten := by
    refine chunks _ _ _ (by rw [hl]; rfl) (fun i y hy => ?_)
    have hi : i < 15 := (List.getElem?_eq_some_iff.1 hy).1
    have h1 := hat i hi
    rw [cellsSG] at h1
    have h2 : (xs.map (·.1))[i]? = some (.agg [.lit (.string (y.1.map UInt8.ofNat)), .lit (.int .i64 (y.2.1 : Int)), .lit (.int .i64 (y.2.2 : Int))]) := by rw [← hx, List.getElem?_map, hy]; rfl
    rw [List.getElem?_map] at h2
    obtain ⟨x, hxi, hx1⟩ := Option.map_eq_some_iff.1 h2
    rw [hxi] at h1
    obtain ⟨x1, x2⟩ := x
    simp only at hx1
    subst hx1
    exact cells_of_sign h1
  unfold Signs
  rw [hvar]
  congr 1
  apply Array.toList_inj.1
  rw [hc]
  rfl
theorem varsZ {W : World} (h : laidMetH Tryz.prog Rows.kindsOneRow.laid W) : AllV W := by
  have h1 : laidMet Tryz.prog Rows.kindsOneRow.laid W := h
  have h2 := h1.tail.tail
  exact ⟨marks_headK h2.tail, signs_head h2.tail.tail, Lib.tabIs_of_head gPk gPkT Tryz.underlying155 Tryz.underlying95 cellsUk cellsPk h2, takes_headK (rest := []) h2.tail.tail.tail⟩
/-- one start that fits: the tables as their initialisers lay them -/
noncomputable def laidWorldZ (os : Os) : World :=
  let w0 := World.holding Tryz.prog os ⟨#[], #[], []⟩
  { w0 with heap := (((((w0.heap.modify 0 fun
      | .cells _ t frozen => .cells takesV t frozen
      | o => o).modify 1 fun
      | .cells _ t frozen => .cells marksV t frozen
      | o => o).modify 2 fun
      | .cells _ t frozen => .cells signsV t frozen
      | o => o).modify 3 fun
      | .cells _ t frozen => .cells #[.int .u64 1, .int .u64 10, .int .u64 100, .int .u64 1000, .int .u64 10000, .int .u64 100000, .int .u64 1000000, .int .u64 10000000, .int .u64 100000000, .int .u64 1000000000, .int .u64 10000000000, .int .u64 100000000000, .int .u64 1000000000000, .int .u64 10000000000000, .int .u64 100000000000000, .int .u64 1000000000000000, .int .u64 10000000000000000, .int .u64 100000000000000000, .int .u64 1000000000000000000, .int .u64 10000000000000000000] t frozen
      | o => o).modify 4 fun
      | .cells _ t frozen => .cells #[.int .u8 0, .int .u8 1, .int .u8 28, .int .u8 2, .int .u8 29, .int .u8 14, .int .u8 24, .int .u8 3, .int .u8 30, .int .u8 22, .int .u8 20, .int .u8 15, .int .u8 25, .int .u8 17, .int .u8 4, .int .u8 8, .int .u8 31, .int .u8 27, .int .u8 13, .int .u8 23, .int .u8 21, .int .u8 19, .int .u8 16, .int .u8 7, .int .u8 26, .int .u8 12, .int .u8 18, .int .u8 6, .int .u8 11, .int .u8 5, .int .u8 10, .int .u8 9] t frozen
      | o => o).modify 5 fun
      | .cells _ t frozen => .cells #[.int .u8 0, .int .u8 1, .int .u8 56, .int .u8 2, .int .u8 57, .int .u8 49, .int .u8 28, .int .u8 3, .int .u8 61, .int .u8 58, .int .u8 42, .int .u8 50, .int .u8 38, .int .u8 29, .int .u8 17, .int .u8 4, .int .u8 62, .int .u8 47, .int .u8 59, .int .u8 36, .int .u8 45, .int .u8 43, .int .u8 51, .int .u8 22, .int .u8 53, .int .u8 39, .int .u8 33, .int .u8 30, .int .u8 24, .int .u8 18, .int .u8 12, .int .u8 5, .int .u8 63, .int .u8 55, .int .u8 48, .int .u8 27, .int .u8 60, .int .u8 41, .int .u8 37, .int .u8 16, .int .u8 46, .int .u8 35, .int .u8 44, .int .u8 21, .int .u8 52, .int .u8 32, .int .u8 23, .int .u8 11, .int .u8 54, .int .u8 26, .int .u8 40, .int .u8 15, .int .u8 34, .int .u8 20, .int .u8 31, .int .u8 10, .int .u8 25, .int .u8 14, .int .u8 19, .int .u8 9, .int .u8 13, .int .u8 8, .int .u8 7, .int .u8 6] t frozen
      | o => o }
theorem laid_metZ (os : Os) (args : Array Value) : laidMet Tryz.prog Rows.kindsOneRow.laid ((laidWorldZ os).forCall (fun _ _ => 0) ⟨#[], args, []⟩).memory :=
  laidMet_of_run' 8 (by kernel_rfl) (by kernel_rfl)
end Go.Proofs.YtidkbodmiegbkaaGreatDoor
