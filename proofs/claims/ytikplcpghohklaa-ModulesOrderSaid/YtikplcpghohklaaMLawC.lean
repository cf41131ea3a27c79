/- The law's walk: 'topiarylaw24.ModulesClose' returns true whatever the languages and the name. -/
import Derived.Test.YtikplcpghohklaaMClose
namespace Go.Proofs.Ytikplcpghohklaa
set_option linter.unusedSimpArgs false
set_option linter.unusedVariables false
open Go.RowKit

/-- an answer of numbers and a fault -/
def AnsP (l : List Int) (x0 x1 x2 x3 : Int) (w : World) (e : Ending) (w' : World) : Prop :=
  (∃ (a : Option Addr) (n c : Nat), e = .returned (.tuple #[.slice a n c, .agg #[.int .i64 x0, .int .i64 x1, .int .i64 x2, .int .i64 x3]]) ∧ SlR w' w'.heap.size 1 IsInt (.slice a n c) l) ∧ Below w.heap.size w w'
theorem close_ans (ls : List Language) (name : ByteArray) : ∃ l x0 x1 x2 x3, ∀ w e w', ClosePost ls name w e w' → AnsP l x0 x1 x2 x3 w e w' := by
  cases hf : faultN ls with
  | some f =>
    refine ⟨[], (f.list : Int), (f.at_ : Int), (f.part : Int), (f.err : Int), fun w e w' h => ?_⟩
    unfold ClosePost at h
    rw [hf] at h
    exact ⟨⟨none, 0, 0, h.1, SlR.nil_ _ (by unfold maxLen; omega) _⟩, h.2⟩
  | none =>
    by_cases hq : findN ls name < 0
    · refine ⟨[], -1, 0, 0, 240, fun w e w' h => ?_⟩
      unfold ClosePost at h
      rw [hf] at h
      simp only [if_pos hq] at h
      exact ⟨⟨none, 0, 0, h.1, SlR.nil_ _ (by unfold maxLen; omega) _⟩, h.2⟩
    · refine ⟨(closeN ls (findN ls name).toNat).map fun (n : Nat) => (n : Int), 0, 0, 0, 0, fun w e w' h => ?_⟩
      unfold ClosePost at h
      rw [hf] at h
      simp only [if_neg hq] at h
      obtain ⟨⟨a, n, c, he, hs⟩, hb⟩ := h
      exact ⟨⟨a, n, c, he, hs⟩, hb⟩
theorem order_ans (ls : List Language) : ∃ l x0 x1 x2 x3, (∀ w e w', MOPost ls w e w' → AnsP l x0 x1 x2 x3 w e w') ∧ (∀ w e w', OrdPost ls w e w' → AnsP l x0 x1 x2 x3 w e w') := by
  cases hf : faultN ls with
  | some f =>
    refine ⟨[], (f.list : Int), (f.at_ : Int), (f.part : Int), (f.err : Int), fun w e w' h => ?_, fun w e w' h => ?_⟩
    · unfold MOPost at h
      rw [hf] at h
      exact ⟨⟨none, 0, 0, h.1, SlR.nil_ _ (by unfold maxLen; omega) _⟩, h.2⟩
    · unfold OrdPost at h
      rw [hf] at h
      exact ⟨⟨none, 0, 0, h.1, SlR.nil_ _ (by unfold maxLen; omega) _⟩, h.2⟩
  | none =>
    refine ⟨(rowN (webN ls)).map fun (n : Nat) => (n : Int), 0, 0, 0, 0, fun w e w' h => ?_, fun w e w' h => ?_⟩
    · unfold MOPost at h
      rw [hf] at h
      obtain ⟨⟨a, c, he, hs⟩, hb⟩ := h
      exact ⟨⟨a, _, c, he, hs⟩, hb⟩
    · unfold OrdPost at h
      rw [hf] at h
      obtain ⟨⟨a, c, he, hs⟩, hb⟩ := h
      exact ⟨⟨a, _, c, he, hs⟩, hb⟩
set_option maxRecDepth 100000 in
set_option maxHeartbeats 4000000 in
theorem lawC_walk {ls : List Language} {v : Value} (name : ByteArray) (hname : name.size ≤ maxLen) (w : World) (hs : LsR w w.heap.size v ls) :
    Calls Try.prog 4 #[v, .string name] w fun e w' => e = .returned (.bool true) ∧ Below w.heap.size w w' := by
  obtain ⟨l, x0, x1, x2, x3, hans⟩ := close_ans ls name
  have HG := Lib.hid (fun W (hW : Below w.heap.size w W) => great_any W w hs hW)
  have HC := Lib.hid (fun W (hW : Below w.heap.size w W) => (m_Close name hname W w hs hW).mono fun e w' h => hans W e w' h)
  have HR := Lib.hid (fun W (hW : Below w.heap.size w W) => (r_close name W w hs hW).mono fun e w' h => hans W e w' h)
  clear hans hs
  go_enter Try.func4, Try.ntmps4
  go_wp2_with (first
    | (go_at_call 5; refine (HG.out _ (Below.refl _ _)).mono ?_; rintro e w1 ⟨⟨b, rfl⟩, hb⟩; have L1 := Lib.hid hb; clear hb; cases b)
    | (go_at_call 11; refine (HC.out _ L1.out).mono ?_; rintro e w2 ⟨⟨a, n, c, rfl, hS⟩, hb⟩; have S2 := Lib.hid hS; have L2 : Hid (Below w.heap.size w w2) := Lib.hid (L1.out.trans (hb.mono L1.out.size)); clear hb hS)
    | (go_at_call 12; refine (HR.out _ (L2.out.alloc L2.out.size _)).mono ?_; rintro e w3 ⟨⟨a', n', c', rfl, hS⟩, hb⟩; have S3 := Lib.hid hS; have hb2 : Below (w2.heap.size + 1) (w2.alloc (.cells #[.int .i64 x0, .int .i64 x1, .int .i64 x2, .int .i64 x3] 36)) w3 := hb.mono (by simp); have B6 : Blk w3 w2.heap.size 36 #[.int .i64 x0, .int .i64 x1, .int .i64 x2, .int .i64 x3] := (Blk.new w2 _ _).below hb2 (by omega); have y0 : w3.cell? ⟨w2.heap.size, 0, none⟩ = some (.int .i64 x0) := B6.cell rfl; have y1 : w3.cell? ⟨w2.heap.size, 1, none⟩ = some (.int .i64 x1) := B6.cell rfl; have y2 : w3.cell? ⟨w2.heap.size, 2, none⟩ = some (.int .i64 x2) := B6.cell rfl; have y3 : w3.cell? ⟨w2.heap.size, 3, none⟩ = some (.int .i64 x3) := B6.cell rfl; have l6 := B6.lt; have B23 : Hid (Below w2.heap.size w2 w3) := Lib.hid (((Below.refl _ _).alloc (Nat.le_refl _) _).trans (hb2.mono (by omega))); have L3 : Hid (Below w.heap.size w w3) := Lib.hid (L2.out.trans (B23.out.mono L2.out.size)); clear hb hb2 hS B6)
    | (go_at_call 9; have hB := (Below.refl w3.heap.size w3).alloc (Nat.le_refl _) (.cells #[.int .i64 x0, .int .i64 x1, .int .i64 x2, .int .i64 x3] 36); refine (r_ints _ w3 ((S2.out.below B23.out).more B23.out.size) S3.out hB).mono ?_; rintro e w4 ⟨rfl, q4⟩; have L4 : Hid (Below w.heap.size w w4) := Lib.hid ((L3.out.alloc L3.out.size _).trans (q4.below _)); clear q4))
  all_goals
    go_ret
    first
      | exact ⟨by simp, L4.out⟩
      | exact ⟨rfl, L1.out⟩
end Go.Proofs.Ytikplcpghohklaa
