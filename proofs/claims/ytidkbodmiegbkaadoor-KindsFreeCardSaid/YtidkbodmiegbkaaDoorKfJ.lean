/- What the list of variables of chapter 09's rows gives, and one start that fits it. -/
import Derived.Test.YtidkbodmiegbkaaDoorKfI
import Derived.Test.YtidkbodmiegbkaaDoorMDoorC
namespace Go.Proofs.YtidkbodmiegbkaaDoor
set_option linter.unusedSimpArgs false
set_option linter.unusedVariables false
open Go.RowKit Go.ChangeShapes Go.WideShapes Go.ChangeAt

theorem gPk : Tryd.prog.globalNamed "internal/strconv.uint64pow10" = some 2 := by kernel_rfl
theorem gPkT : (Tryd.prog.globals[2]?).map (·.type) = some 128 := by kernel_rfl
theorem cellsPk : Tryd.prog.cellsOf 128 = 20 := by kernel_rfl
theorem cellsUk : Tryd.prog.cellsOf 82 = 1 := by kernel_rfl
theorem cellsSk : Tryd.prog.cellsOf 9 = 1 := by kernel_rfl
theorem gMk : Tryd.prog.globalNamed "topiary/lex.marks" = some 1 := by kernel_rfl
theorem gMkT : (Tryd.prog.globals[1]?).map (·.type) = some 114 := by kernel_rfl
theorem cellsMk : Tryd.prog.cellsOf 114 = 16 := by kernel_rfl
theorem gTk : Tryd.prog.globalNamed "topiary/kinds.takes" = some 0 := by kernel_rfl
theorem gTkT : (Tryd.prog.globals[0]?).map (·.type) = some 84 := by kernel_rfl
theorem cellsTk : Tryd.prog.cellsOf 84 = 35 * 3 := by kernel_rfl
theorem cells3k : Tryd.prog.cellsOf 83 = 3 := by kernel_rfl
theorem cells3k1 : Tryd.prog.cellsOf 83 = 3 * 1 := by kernel_rfl
theorem cellsIk : Tryd.prog.cellsOf 3 = 1 := by kernel_rfl
theorem marks_headK {W : World} {rest : List (String × DataW Unit)} (h : laidMet Tryd.prog (("topiary/lex.marks", Rows.laid_topiary_lex_marks) :: rest) W) : Marks W := by
  obtain ⟨ps, ⟨g', t', cs, fuel, p, q, hg', ht', hvar, hd, _, _⟩, _⟩ := h
  obtain rfl := Option.some.inj (gMk.symm.trans hg')
  obtain rfl := Option.some.inj (gMkT.symm.trans ht')
  have hd' : DataW.trod (fun _ => ()) Tryd.prog W 0 (fun _ => true) false fuel 114 cs.toList = some (.agg ((marksL.map fun m => m.map UInt8.ofNat).map fun z => .lit (.string z)), p) := hd
  have := cells_of_texts Tryd.underlying114 Tryd.underlying9 cellsSk cellsMk hd'
  unfold Marks
  rw [hvar]
  congr 1
  apply Array.toList_inj.1
  rw [this]
  rfl
/-- an array's elements, one by one -/
theorem cells_of_arr {H : Type} {enc : TypeId × Value → H} {P : Program} {w : World} {base : Nat} {sp : Nat → Bool} {held : Bool} {fuel : Nat} {t e : TypeId} {n k : Nat} {cs : List Value} {ds : List (DataW H)} {p : List MemPlace}
    (ht : P.underlying t = some (.array n e)) (hce : P.cellsOf e = k) (hct : P.cellsOf t = n * k)
    (h : DataW.trod enc P w base sp held fuel t cs = some (.agg ds, p)) : ∃ fuel', cs.length = n * k ∧ ∀ i, i < n → ∃ x q, ds[i]? = some x ∧ DataW.trod enc P w base sp held fuel' e ((cs.drop (i * k)).take k) = some (x, q) := by
  cases fuel with
  | zero => simp [DataW.trod] at h
  | succ fuel =>
    simp only [DataW.trod, ht, hce, hct] at h
    split at h
    · rename_i hl
      obtain ⟨xs, hm, hx⟩ := Option.map_eq_some_iff.1 h
      have hxs : xs.map (·.1) = ds := by
        have := congrArg Prod.fst hx
        simpa using this
      have hxl : xs.length = n := by simpa using Lib.mapM_length hm
      refine ⟨fuel, hl, fun i hi => ?_⟩
      obtain ⟨b, hb, hf⟩ := Lib.mapM_at hm i i (by simp [hi])
      exact ⟨b.1, b.2, by rw [← hxs]; simp [hb], hf⟩
    · cases h
theorem flat_rows {X : Type} (f : X → List Value) (hf : ∀ x, (f x).length = 3) : ∀ (T : List X) (cs : List Value), cs.length = T.length * 3 → (∀ i x, T[i]? = some x → (cs.drop (i * 3)).take 3 = f x) → cs = T.flatMap f
  | [], cs, hl, _ => by simpa using hl
  | x :: T, cs, hl, h => by
    have h0 := h 0 x rfl
    simp only [Nat.zero_mul, List.drop_zero] at h0
    have hr := flat_rows f hf T (cs.drop 3) (by simp only [List.length_drop, List.length_cons] at hl ⊢; omega) (fun i y hy => by
      rw [List.drop_drop]
      have := h (i + 1) y hy
      rwa [show (i + 1) * 3 = 3 + i * 3 by omega] at this)
    rw [List.flatMap_cons, ← h0, ← hr, List.take_append_drop]
theorem takes_headK {W : World} {rest : List (String × DataW Unit)} (h : laidMet Tryd.prog (("topiary/kinds.takes", Rows.laid_topiary_kinds_takes) :: rest) W) : TakesB W := by
  obtain ⟨ps, ⟨g', t', cs, fuel, p, q, hg', ht', hvar, hd, _, _⟩, _⟩ := h
  obtain rfl := Option.some.inj (gTk.symm.trans hg')
  obtain rfl := Option.some.inj (gTkT.symm.trans ht')
  have hd' : DataW.trod (fun _ => ()) Tryd.prog W 0 (fun _ => true) false fuel 84 cs.toList = some (.agg (takesL.map fun x => .agg [.lit (.int .i64 x.1), .lit (.int .i64 x.2.1), .lit (.int .i64 x.2.2)]), p) := hd
  obtain ⟨f1, hl, hrow⟩ := cells_of_arr Tryd.underlying84 cells3k cellsTk hd'
  have hall : cs.toList = takesL.flatMap fun x => [Value.int .i64 x.1, Value.int .i64 x.2.1, Value.int .i64 x.2.2] := by
    refine flat_rows _ (fun _ => rfl) _ _ (by rw [hl]; rfl) (fun i x hx => ?_)
    have hi : i < 35 := by have := (List.getElem?_eq_some_iff.1 hx).1; exact this
    obtain ⟨y, q', hy, ht⟩ := hrow i hi
    rw [List.getElem?_map, hx] at hy
    obtain rfl := Option.some.inj hy
    obtain ⟨f2, hl2, hc⟩ := cells_of_arr Tryd.underlying83 cellsIk cells3k1 ht
    have atz : ∀ j (z : Int), j < 3 → ([.lit (.int .i64 x.1), .lit (.int .i64 x.2.1), .lit (.int .i64 x.2.2)] : List (DataW Unit))[j]? = some (.lit (.int .i64 z)) → ((cs.toList.drop (i * 3)).take 3)[j]? = some (.int .i64 z) := fun j z hj hz => by
      obtain ⟨y, q2, hy, ht2⟩ := hc j hj
      obtain ⟨s, hs, hd2, _⟩ := DataW.trod_int Tryd.underlying3 ht2
      rw [hz] at hy
      obtain rfl := Option.some.inj hy
      obtain ⟨rfl, _⟩ : z = s ∧ q2 = [] := by simpa using hd2
      have := congrArg (·[0]?) hs
      simpa [List.getElem?_take, List.getElem?_drop] using this
    apply List.ext_getElem?
    intro j
    by_cases hj : j < 3
    · rcases (by omega : j = 0 ∨ j = 1 ∨ j = 2) with rfl | rfl | rfl
      · exact atz 0 _ hj rfl
      · exact atz 1 _ hj rfl
      · exact atz 2 _ hj rfl
    · rw [List.getElem?_eq_none (by omega), List.getElem?_eq_none (by simp; omega)]
  have hcs : cs = takesV := by
    apply Array.toList_inj.1
    rw [hall]
    rfl
  subst hcs
  unfold World.var? at hvar
  rw [gTk] at hvar
  simp only [Option.bind_some] at hvar
  unfold TakesB
  split at hvar
  · rename_i cs t fr e
    injection hvar with hvar
    subst hvar
    exact ⟨t, fr, e⟩
  · cases hvar
theorem varsK {W : World} (h : laidMetH Tryd.prog Rows.kindsFreeRow.laid W) : Marks W ∧ Pow W ∧ TakesB W := by
  have h1 : laidMet Tryd.prog Rows.kindsFreeRow.laid W := h
  have h2 := h1.tail.tail
  exact ⟨marks_headK h2.tail, Lib.tabIs_of_head gPk gPkT Tryd.underlying128 Tryd.underlying82 cellsUk cellsPk h2, takes_headK (rest := []) h2.tail.tail⟩
/-- one start that fits: the tables as their initialisers lay them -/
noncomputable def laidWorldK (os : Os) : World :=
  let w0 := World.holding Tryd.prog os ⟨#[], #[], []⟩
  { w0 with heap := ((((w0.heap.modify 0 fun
      | .cells _ t frozen => .cells takesV t frozen
      | o => o).modify 1 fun
      | .cells _ t frozen => .cells marksV t frozen
      | o => o).modify 2 fun
      | .cells _ t frozen => .cells #[.int .u64 1, .int .u64 10, .int .u64 100, .int .u64 1000, .int .u64 10000, .int .u64 100000, .int .u64 1000000, .int .u64 10000000, .int .u64 100000000, .int .u64 1000000000, .int .u64 10000000000, .int .u64 100000000000, .int .u64 1000000000000, .int .u64 10000000000000, .int .u64 100000000000000, .int .u64 1000000000000000, .int .u64 10000000000000000, .int .u64 100000000000000000, .int .u64 1000000000000000000, .int .u64 10000000000000000000] t frozen
      | o => o).modify 3 fun
      | .cells _ t frozen => .cells #[.int .u8 0, .int .u8 1, .int .u8 28, .int .u8 2, .int .u8 29, .int .u8 14, .int .u8 24, .int .u8 3, .int .u8 30, .int .u8 22, .int .u8 20, .int .u8 15, .int .u8 25, .int .u8 17, .int .u8 4, .int .u8 8, .int .u8 31, .int .u8 27, .int .u8 13, .int .u8 23, .int .u8 21, .int .u8 19, .int .u8 16, .int .u8 7, .int .u8 26, .int .u8 12, .int .u8 18, .int .u8 6, .int .u8 11, .int .u8 5, .int .u8 10, .int .u8 9] t frozen
      | o => o).modify 4 fun
      | .cells _ t frozen => .cells #[.int .u8 0, .int .u8 1, .int .u8 56, .int .u8 2, .int .u8 57, .int .u8 49, .int .u8 28, .int .u8 3, .int .u8 61, .int .u8 58, .int .u8 42, .int .u8 50, .int .u8 38, .int .u8 29, .int .u8 17, .int .u8 4, .int .u8 62, .int .u8 47, .int .u8 59, .int .u8 36, .int .u8 45, .int .u8 43, .int .u8 51, .int .u8 22, .int .u8 53, .int .u8 39, .int .u8 33, .int .u8 30, .int .u8 24, .int .u8 18, .int .u8 12, .int .u8 5, .int .u8 63, .int .u8 55, .int .u8 48, .int .u8 27, .int .u8 60, .int .u8 41, .int .u8 37, .int .u8 16, .int .u8 46, .int .u8 35, .int .u8 44, .int .u8 21, .int .u8 52, .int .u8 32, .int .u8 23, .int .u8 11, .int .u8 54, .int .u8 26, .int .u8 40, .int .u8 15, .int .u8 34, .int .u8 20, .int .u8 31, .int .u8 10, .int .u8 25, .int .u8 14, .int .u8 19, .int .u8 9, .int .u8 13, .int .u8 8, .int .u8 7, .int .u8 6] t frozen
      | o => o }
theorem laid_metK (os : Os) (args : Array Value) : laidMet Tryd.prog Rows.kindsFreeRow.laid ((laidWorldK os).forCall (fun _ _ => 0) ⟨#[], args, []⟩).memory :=
  laidMet_of_run' 8 (by kernel_rfl) (by kernel_rfl)
end Go.Proofs.YtidkbodmiegbkaaDoor
