/- The law's walk: 'topiarylaw01.NamesStops' returns true whatever the text and the place; the library's variables hold what they began with. -/
import Derived.Test.YtffhogadgjnkkaaDoorNsPlain
import Derived.Test.YtffhogadgjnkkaaDoorAwake
namespace Go.Proofs.YtffhogadgjnkkaaDoor
open Go.RowKit

/-- is a text, with this behind it, read to its end? -/
def good (l : List Nat) (a : Int) (x : List Nat) : Prop := (unquoteN (l ++ x) a).2.1 = ((l.length + x.length : Nat) : Int) ∧ (unquoteN (l ++ x) a).2.2 = 0

set_option maxHeartbeats 8000000 in
set_option maxRecDepth 100000 in
theorem stops_walk (t : ByteArray) (a : Int) (hs : t.size ≤ 140737488351232) (a0 : -9223372036854775808 ≤ a) (a1 : a ≤ 9223372036854775807) (w : World) (hv : Vars w) :
    Calls Tryd.prog 6 #[.string t, .int .i64 a] w fun e w' => e = .returned (.bool true) ∧ Below w.heap.size w w' := by
  have AW := Lib.hid (awake_any w hv)
  clear hv
  have wfa : (Lit.int .i64 a).wf = true := by
    have e1 : IntKind.i64.min = -9223372036854775808 := rfl
    have e2 : IntKind.i64.max = 9223372036854775807 := rfl
    simp [Lit.wf, e1, e2]; omega
  have U1 := Lib.hid (fun W => unquote_any t a wfa (by omega) W)
  have Wfa := Lib.hid wfa
  clear wfa
  by_cases h1 : a < 0
  · have hr : unquoteN (bs t) a = ([], 0, 2) := by unfold unquoteN; rw [if_pos (Or.inl h1)]
    rw [hr] at U1
    simp only [unqV] at U1
    rw [show ((2 : Nat) : Int) = 2 from rfl, show txt [] = ⟨#[]⟩ from rfl] at U1
    clear hr
    go_enter Tryd.func6, Tryd.ntmps6
    go_wp2_with (first
      | (go_at_call 18; refine AW.out.mono ?_; rintro e w1 ⟨rfl, b1⟩)
      | (go_at_call 20; refine (U1.out _).mono ?_; rintro e w2 ⟨rfl, b2⟩))
    go_ret
    exact ⟨rfl, b1.trans (b2.mono b1.size)⟩
  have h1' : decide (a < 0) = false := by simp; omega
  by_cases h2 : (t.size : Int) < a
  · have hr : unquoteN (bs t) a = ([], 0, 2) := by unfold unquoteN; rw [if_pos (Or.inr (by rw [bs_len]; exact h2))]
    rw [hr] at U1
    simp only [unqV] at U1
    rw [show ((2 : Nat) : Int) = 2 from rfl, show txt [] = ⟨#[]⟩ from rfl] at U1
    clear hr
    go_enter Tryd.func6, Tryd.ntmps6
    go_wp2_with (first
      | (go_at_call 18; refine AW.out.mono ?_; rintro e w1 ⟨rfl, b1⟩)
      | (go_at_call 20; refine (U1.out _).mono ?_; rintro e w2 ⟨rfl, b2⟩))
    go_ret
    exact ⟨rfl, b1.trans (b2.mono b1.size)⟩
  have h2' : decide ((t.size : Int) < a) = false := by simp; omega
  obtain ⟨k0, rfl⟩ : ∃ k : Nat, a = (k : Int) := ⟨a.toNat, by omega⟩
  have h2n : decide (t.size < k0) = false := by simp; omega
  have hk0 : k0 ≤ (bs t).length := by rw [bs_len]; omega
  rcases hu : unquoteN (bs t) k0 with ⟨y, i, e⟩
  rw [hu] at U1
  simp only [unqV] at U1
  by_cases he : e = 0
  · subst he
    obtain ⟨k, rfl, q1, q2⟩ := stops_ok (bs_bytes t) hk0 hu
    rw [bs_len] at q2
    rw [show ((0 : Nat) : Int) = 0 from rfl] at U1
    generalize txt y = ty at U1
    have f1 : decide ((k0 : Int) + 1 < (k : Int)) = true := by simp; omega
    have f2 : decide ((k : Int) ≤ (t.size : Int)) = true := by simp; omega
    have f3 : decide (k ≤ t.size) = true := by simp; omega
    clear hu hk0
    go_enter Tryd.func6, Tryd.ntmps6
    go_wp2_with (first
      | (go_at_call 18; refine AW.out.mono ?_; rintro e w1 ⟨rfl, b1⟩)
      | (go_at_call 20; refine (U1.out _).mono ?_; rintro e w2 ⟨rfl, b2⟩))
    go_ret
    exact ⟨by first | rfl | (simp; omega), b1.trans (b2.mono b1.size)⟩
  · obtain ⟨k, rfl, rfl, rfl, q1, q2, q3, x, hx, y', q4⟩ := stops_no (bs_bytes t) hk0 he hu
    rw [bs_len] at q2
    rw [show ((10 : Nat) : Int) = 10 from rfl, show txt [] = ⟨#[]⟩ from rfl] at U1
    have hlk : ((bs t).take k).length = k := by rw [List.length_take, bs_len]; omega
    obtain ⟨cut, hcut⟩ : ∃ c, t.extract 0 k = c := ⟨_, rfl⟩
    have hbc : bs cut = (bs t).take k := by rw [← hcut, bs_extract, List.drop_zero]
    have hcs : cut.size = k := by rw [← bs_len, hbc, hlk]
    have UC : Hid (∀ W, Calls Tryd.prog 20 #[.string cut, .int .i64 (k0 : Int)] W fun e w' => e = .returned (.tuple #[.string ⟨#[]⟩, .int .i64 (k : Int), .int .i64 10]) ∧ Below W.heap.size W w') := Lib.hid (fun W => by
      have := unquote_any cut (k0 : Int) Wfa.out (by omega) W
      rw [hbc, q3] at this
      exact this)
    have UX : Hid (∀ (xs : ByteArray), xs.size ≤ 4 → ∀ W, Calls Tryd.prog 20 #[.string (cut ++ xs), .int .i64 (k0 : Int)] W fun e w' => e = .returned (unqV (unquoteN (bs cut ++ bs xs) k0)) ∧ Below W.heap.size W w') := Lib.hid (fun xs hxs W => by
      have hb : bs (cut ++ xs) = bs cut ++ bs xs := bs_append cut xs
      have := unquote_any (cut ++ xs) (k0 : Int) Wfa.out (by rw [← bs_len, hb, List.length_append, bs_len, bs_len]; omega) W
      rw [hb] at this
      exact this)
    have hgood : ∃ x ∈ ends, good (bs cut) k0 x := ⟨x, hx, by
      unfold good
      rw [hbc, q4, hlk]
      exact ⟨rfl, rfl⟩⟩
    have HG := Lib.hid hgood
    have Hcs := Lib.hid hcs
    have hcs' : (cut.size : Int) = (k : Int) := by omega
    have n1 : ¬ (k : Int) < (k0 : Int) := by omega
    have n2 : ¬ (t.size : Int) < (k : Int) := by omega
    have n3 : decide ((k : Int) < (k0 : Int)) = false := by simp; omega
    have n4 : decide ((t.size : Int) < (k : Int)) = false := by simp; omega
    have n5 : decide (k < k0) = false := by simp; omega
    have n6 : decide (t.size < k) = false := by simp; omega
    clear hu hk0 he q3 q4 hx hgood hbc hlk
    have tok1 : True := trivial
    have tok2 : True := trivial
    go_enter Tryd.func6, Tryd.ntmps6
    go_wp2_with (first
      | (go_at_call 18; refine AW.out.mono ?_; rintro e w1 ⟨rfl, b1⟩)
      | (go_at_call 20; have _t := tok1; refine (U1.out _).mono ?_; rintro e w2 ⟨rfl, b2⟩; have B2 : Hid (Below w.heap.size w w2) := Lib.hid (b1.trans (b2.mono b1.size)); clear tok1 _t)
      | (go_at_call 20; have _t := tok2; refine (UC.out _).mono ?_; rintro e w3 ⟨rfl, b3⟩; have B3 : Hid (Below w.heap.size w w3) := Lib.hid (B2.out.trans (b3.mono B2.out.size)); clear tok2 _t))
    go_loopw [93] (fun i wr => ∃ j : Nat, j ≤ 5 ∧ i = .int .i64 j ∧ Hid (∀ j' x, j' < j → ends[j']? = some x → ¬ good (bs cut) k0 x) ∧ Hid (Below w.heap.size w wr)) (fun i _ => 5 - (intOf i).toNat)
    case atStart => exact ⟨0, by omega, rfl, fun j' x h _ => absurd h (by omega), B3.out.alloc B3.out.size _⟩
    case round =>
      obtain ⟨j, hj, rfl, hno, B4⟩ := hrel
      by_cases hlt : j < 5
      · have hcases : j = 0 ∨ j = 1 ∨ j = 2 ∨ j = 3 ∨ j = 4 := by omega
        rcases hcases with rfl | rfl | rfl | rfl | rfl
        · have ij : ∀ W, (Instr.index 36 (.agg #[.string ⟨#[34]⟩, .string ⟨#[34, 34]⟩, .string ⟨#[110, 34]⟩, .string ⟨#[102, 102, 34]⟩, .string ⟨#[102, 34]⟩]) (.int .i64 0)).run Tryd.prog W = .ok (.string ⟨#[34]⟩) W := fun W => by kernel_rfl
          have UJ := Lib.hid (UX.out ⟨#[34]⟩ (by decide))
          have hbx : bs ⟨#[34]⟩ = [34] := rfl
          rw [hbx] at UJ
          have hsz : (cut ++ ⟨#[34]⟩).size = k + 1 := by rw [← bs_len, bs_append, List.length_append, bs_len, Hcs.out]; rfl
          rcases hr : unquoteN (bs cut ++ [34]) k0 with ⟨o, z, e⟩
          rw [hr] at UJ
          simp only [unqV] at UJ
          by_cases hg : good (bs cut) k0 [34]
          · obtain ⟨g1, g2⟩ := hg
            rw [hr] at g1 g2
            simp only at g1 g2
            rw [bs_len, Hcs.out] at g1
            subst g1 g2
            have ez : ((k + [34].length : Nat) : Int) = (k : Int) + 1 := by simp
            rw [ez, show ((0 : Nat) : Int) = 0 from rfl] at UJ
            generalize txt o = to at UJ
            clear hr ez
            go_wp2_with (go_at_call 20; refine (UJ.out _).mono ?_; rintro e w5 ⟨rfl, b5⟩)
            go_ret
            exact ⟨rfl, B4.out.trans (b5.mono B4.out.size)⟩
          · have HN : Hid (∀ j' x, j' < 0 + 1 → ends[j']? = some x → ¬ good (bs cut) k0 x) := Lib.hid (fun j' x h h' => by
              by_cases ej : j' = 0
              · subst ej
                have : ends[0]? = some [34] := rfl
                rw [this] at h'
                injection h' with h'
                rw [← h']; exact hg
              · exact hno.out j' x (by omega) h')
            have hng : (e ≠ 0) ∨ (e = 0 ∧ z ≠ (k : Int) + 1) := by
              by_cases e0 : e = 0
              · refine Or.inr ⟨e0, fun ez => hg ⟨?_, ?_⟩⟩
                · rw [hr, bs_len, Hcs.out]; simp; omega
                · rw [hr]; exact e0
              · exact Or.inl e0
            generalize txt o = to at UJ
            clear hr hg
            rcases hng with hng | ⟨rfl, hng⟩
            · obtain ⟨ei, hei⟩ : ∃ ei : Int, (e : Int) = ei := ⟨_, rfl⟩
              have ee : (ei == 0) = false := by simp; omega
              rw [hei] at UJ
              clear hei hng
              go_wp2_with (go_at_call 20; refine (UJ.out _).mono ?_; rintro e w5 ⟨rfl, b5⟩)
              go_roundw
              case rel => exact ⟨0 + 1, by omega, by go_num, HN.out, B4.out.trans (b5.mono B4.out.size)⟩
              case measure => simp [intOf]
            · rw [show ((0 : Nat) : Int) = 0 from rfl] at UJ
              have ee : (z == (k : Int) + 1) = false := by simp; omega
              clear hng
              go_wp2_with (go_at_call 20; refine (UJ.out _).mono ?_; rintro e w5 ⟨rfl, b5⟩)
              go_roundw
              case rel => exact ⟨0 + 1, by omega, by go_num, HN.out, B4.out.trans (b5.mono B4.out.size)⟩
              case measure => simp [intOf]
        · have ij : ∀ W, (Instr.index 36 (.agg #[.string ⟨#[34]⟩, .string ⟨#[34, 34]⟩, .string ⟨#[110, 34]⟩, .string ⟨#[102, 102, 34]⟩, .string ⟨#[102, 34]⟩]) (.int .i64 1)).run Tryd.prog W = .ok (.string ⟨#[34, 34]⟩) W := fun W => by kernel_rfl
          have UJ := Lib.hid (UX.out ⟨#[34, 34]⟩ (by decide))
          have hbx : bs ⟨#[34, 34]⟩ = [34, 34] := rfl
          rw [hbx] at UJ
          have hsz : (cut ++ ⟨#[34, 34]⟩).size = k + 2 := by rw [← bs_len, bs_append, List.length_append, bs_len, Hcs.out]; rfl
          rcases hr : unquoteN (bs cut ++ [34, 34]) k0 with ⟨o, z, e⟩
          rw [hr] at UJ
          simp only [unqV] at UJ
          by_cases hg : good (bs cut) k0 [34, 34]
          · obtain ⟨g1, g2⟩ := hg
            rw [hr] at g1 g2
            simp only at g1 g2
            rw [bs_len, Hcs.out] at g1
            subst g1 g2
            have ez : ((k + [34, 34].length : Nat) : Int) = (k : Int) + 2 := by simp
            rw [ez, show ((0 : Nat) : Int) = 0 from rfl] at UJ
            generalize txt o = to at UJ
            clear hr ez
            go_wp2_with (go_at_call 20; refine (UJ.out _).mono ?_; rintro e w5 ⟨rfl, b5⟩)
            go_ret
            exact ⟨rfl, B4.out.trans (b5.mono B4.out.size)⟩
          · have HN : Hid (∀ j' x, j' < 1 + 1 → ends[j']? = some x → ¬ good (bs cut) k0 x) := Lib.hid (fun j' x h h' => by
              by_cases ej : j' = 1
              · subst ej
                have : ends[1]? = some [34, 34] := rfl
                rw [this] at h'
                injection h' with h'
                rw [← h']; exact hg
              · exact hno.out j' x (by omega) h')
            have hng : (e ≠ 0) ∨ (e = 0 ∧ z ≠ (k : Int) + 2) := by
              by_cases e0 : e = 0
              · refine Or.inr ⟨e0, fun ez => hg ⟨?_, ?_⟩⟩
                · rw [hr, bs_len, Hcs.out]; simp; omega
                · rw [hr]; exact e0
              · exact Or.inl e0
            generalize txt o = to at UJ
            clear hr hg
            rcases hng with hng | ⟨rfl, hng⟩
            · obtain ⟨ei, hei⟩ : ∃ ei : Int, (e : Int) = ei := ⟨_, rfl⟩
              have ee : (ei == 0) = false := by simp; omega
              rw [hei] at UJ
              clear hei hng
              go_wp2_with (go_at_call 20; refine (UJ.out _).mono ?_; rintro e w5 ⟨rfl, b5⟩)
              go_roundw
              case rel => exact ⟨1 + 1, by omega, by go_num, HN.out, B4.out.trans (b5.mono B4.out.size)⟩
              case measure => simp [intOf]
            · rw [show ((0 : Nat) : Int) = 0 from rfl] at UJ
              have ee : (z == (k : Int) + 2) = false := by simp; omega
              clear hng
              go_wp2_with (go_at_call 20; refine (UJ.out _).mono ?_; rintro e w5 ⟨rfl, b5⟩)
              go_roundw
              case rel => exact ⟨1 + 1, by omega, by go_num, HN.out, B4.out.trans (b5.mono B4.out.size)⟩
              case measure => simp [intOf]
        · have ij : ∀ W, (Instr.index 36 (.agg #[.string ⟨#[34]⟩, .string ⟨#[34, 34]⟩, .string ⟨#[110, 34]⟩, .string ⟨#[102, 102, 34]⟩, .string ⟨#[102, 34]⟩]) (.int .i64 2)).run Tryd.prog W = .ok (.string ⟨#[110, 34]⟩) W := fun W => by kernel_rfl
          have UJ := Lib.hid (UX.out ⟨#[110, 34]⟩ (by decide))
          have hbx : bs ⟨#[110, 34]⟩ = [110, 34] := rfl
          rw [hbx] at UJ
          have hsz : (cut ++ ⟨#[110, 34]⟩).size = k + 2 := by rw [← bs_len, bs_append, List.length_append, bs_len, Hcs.out]; rfl
          rcases hr : unquoteN (bs cut ++ [110, 34]) k0 with ⟨o, z, e⟩
          rw [hr] at UJ
          simp only [unqV] at UJ
          by_cases hg : good (bs cut) k0 [110, 34]
          · obtain ⟨g1, g2⟩ := hg
            rw [hr] at g1 g2
            simp only at g1 g2
            rw [bs_len, Hcs.out] at g1
            subst g1 g2
            have ez : ((k + [110, 34].length : Nat) : Int) = (k : Int) + 2 := by simp
            rw [ez, show ((0 : Nat) : Int) = 0 from rfl] at UJ
            generalize txt o = to at UJ
            clear hr ez
            go_wp2_with (go_at_call 20; refine (UJ.out _).mono ?_; rintro e w5 ⟨rfl, b5⟩)
            go_ret
            exact ⟨rfl, B4.out.trans (b5.mono B4.out.size)⟩
          · have HN : Hid (∀ j' x, j' < 2 + 1 → ends[j']? = some x → ¬ good (bs cut) k0 x) := Lib.hid (fun j' x h h' => by
              by_cases ej : j' = 2
              · subst ej
                have : ends[2]? = some [110, 34] := rfl
                rw [this] at h'
                injection h' with h'
                rw [← h']; exact hg
              · exact hno.out j' x (by omega) h')
            have hng : (e ≠ 0) ∨ (e = 0 ∧ z ≠ (k : Int) + 2) := by
              by_cases e0 : e = 0
              · refine Or.inr ⟨e0, fun ez => hg ⟨?_, ?_⟩⟩
                · rw [hr, bs_len, Hcs.out]; simp; omega
                · rw [hr]; exact e0
              · exact Or.inl e0
            generalize txt o = to at UJ
            clear hr hg
            rcases hng with hng | ⟨rfl, hng⟩
            · obtain ⟨ei, hei⟩ : ∃ ei : Int, (e : Int) = ei := ⟨_, rfl⟩
              have ee : (ei == 0) = false := by simp; omega
              rw [hei] at UJ
              clear hei hng
              go_wp2_with (go_at_call 20; refine (UJ.out _).mono ?_; rintro e w5 ⟨rfl, b5⟩)
              go_roundw
              case rel => exact ⟨2 + 1, by omega, by go_num, HN.out, B4.out.trans (b5.mono B4.out.size)⟩
              case measure => simp [intOf]
            · rw [show ((0 : Nat) : Int) = 0 from rfl] at UJ
              have ee : (z == (k : Int) + 2) = false := by simp; omega
              clear hng
              go_wp2_with (go_at_call 20; refine (UJ.out _).mono ?_; rintro e w5 ⟨rfl, b5⟩)
              go_roundw
              case rel => exact ⟨2 + 1, by omega, by go_num, HN.out, B4.out.trans (b5.mono B4.out.size)⟩
              case measure => simp [intOf]
        · have ij : ∀ W, (Instr.index 36 (.agg #[.string ⟨#[34]⟩, .string ⟨#[34, 34]⟩, .string ⟨#[110, 34]⟩, .string ⟨#[102, 102, 34]⟩, .string ⟨#[102, 34]⟩]) (.int .i64 3)).run Tryd.prog W = .ok (.string ⟨#[102, 102, 34]⟩) W := fun W => by kernel_rfl
          have UJ := Lib.hid (UX.out ⟨#[102, 102, 34]⟩ (by decide))
          have hbx : bs ⟨#[102, 102, 34]⟩ = [102, 102, 34] := rfl
          rw [hbx] at UJ
          have hsz : (cut ++ ⟨#[102, 102, 34]⟩).size = k + 3 := by rw [← bs_len, bs_append, List.length_append, bs_len, Hcs.out]; rfl
          rcases hr : unquoteN (bs cut ++ [102, 102, 34]) k0 with ⟨o, z, e⟩
          rw [hr] at UJ
          simp only [unqV] at UJ
          by_cases hg : good (bs cut) k0 [102, 102, 34]
          · obtain ⟨g1, g2⟩ := hg
            rw [hr] at g1 g2
            simp only at g1 g2
            rw [bs_len, Hcs.out] at g1
            subst g1 g2
            have ez : ((k + [102, 102, 34].length : Nat) : Int) = (k : Int) + 3 := by simp
            rw [ez, show ((0 : Nat) : Int) = 0 from rfl] at UJ
            generalize txt o = to at UJ
            clear hr ez
            go_wp2_with (go_at_call 20; refine (UJ.out _).mono ?_; rintro e w5 ⟨rfl, b5⟩)
            go_ret
            exact ⟨rfl, B4.out.trans (b5.mono B4.out.size)⟩
          · have HN : Hid (∀ j' x, j' < 3 + 1 → ends[j']? = some x → ¬ good (bs cut) k0 x) := Lib.hid (fun j' x h h' => by
              by_cases ej : j' = 3
              · subst ej
                have : ends[3]? = some [102, 102, 34] := rfl
                rw [this] at h'
                injection h' with h'
                rw [← h']; exact hg
              · exact hno.out j' x (by omega) h')
            have hng : (e ≠ 0) ∨ (e = 0 ∧ z ≠ (k : Int) + 3) := by
              by_cases e0 : e = 0
              · refine Or.inr ⟨e0, fun ez => hg ⟨?_, ?_⟩⟩
                · rw [hr, bs_len, Hcs.out]; simp; omega
                · rw [hr]; exact e0
              · exact Or.inl e0
            generalize txt o = to at UJ
            clear hr hg
            rcases hng with hng | ⟨rfl, hng⟩
            · obtain ⟨ei, hei⟩ : ∃ ei : Int, (e : Int) = ei := ⟨_, rfl⟩
              have ee : (ei == 0) = false := by simp; omega
              rw [hei] at UJ
              clear hei hng
              go_wp2_with (go_at_call 20; refine (UJ.out _).mono ?_; rintro e w5 ⟨rfl, b5⟩)
              go_roundw
              case rel => exact ⟨3 + 1, by omega, by go_num, HN.out, B4.out.trans (b5.mono B4.out.size)⟩
              case measure => simp [intOf]
            · rw [show ((0 : Nat) : Int) = 0 from rfl] at UJ
              have ee : (z == (k : Int) + 3) = false := by simp; omega
              clear hng
              go_wp2_with (go_at_call 20; refine (UJ.out _).mono ?_; rintro e w5 ⟨rfl, b5⟩)
              go_roundw
              case rel => exact ⟨3 + 1, by omega, by go_num, HN.out, B4.out.trans (b5.mono B4.out.size)⟩
              case measure => simp [intOf]
        · have ij : ∀ W, (Instr.index 36 (.agg #[.string ⟨#[34]⟩, .string ⟨#[34, 34]⟩, .string ⟨#[110, 34]⟩, .string ⟨#[102, 102, 34]⟩, .string ⟨#[102, 34]⟩]) (.int .i64 4)).run Tryd.prog W = .ok (.string ⟨#[102, 34]⟩) W := fun W => by kernel_rfl
          have UJ := Lib.hid (UX.out ⟨#[102, 34]⟩ (by decide))
          have hbx : bs ⟨#[102, 34]⟩ = [102, 34] := rfl
          rw [hbx] at UJ
          have hsz : (cut ++ ⟨#[102, 34]⟩).size = k + 2 := by rw [← bs_len, bs_append, List.length_append, bs_len, Hcs.out]; rfl
          rcases hr : unquoteN (bs cut ++ [102, 34]) k0 with ⟨o, z, e⟩
          rw [hr] at UJ
          simp only [unqV] at UJ
          by_cases hg : good (bs cut) k0 [102, 34]
          · obtain ⟨g1, g2⟩ := hg
            rw [hr] at g1 g2
            simp only at g1 g2
            rw [bs_len, Hcs.out] at g1
            subst g1 g2
            have ez : ((k + [102, 34].length : Nat) : Int) = (k : Int) + 2 := by simp
            rw [ez, show ((0 : Nat) : Int) = 0 from rfl] at UJ
            generalize txt o = to at UJ
            clear hr ez
            go_wp2_with (go_at_call 20; refine (UJ.out _).mono ?_; rintro e w5 ⟨rfl, b5⟩)
            go_ret
            exact ⟨rfl, B4.out.trans (b5.mono B4.out.size)⟩
          · have HN : Hid (∀ j' x, j' < 4 + 1 → ends[j']? = some x → ¬ good (bs cut) k0 x) := Lib.hid (fun j' x h h' => by
              by_cases ej : j' = 4
              · subst ej
                have : ends[4]? = some [102, 34] := rfl
                rw [this] at h'
                injection h' with h'
                rw [← h']; exact hg
              · exact hno.out j' x (by omega) h')
            have hng : (e ≠ 0) ∨ (e = 0 ∧ z ≠ (k : Int) + 2) := by
              by_cases e0 : e = 0
              · refine Or.inr ⟨e0, fun ez => hg ⟨?_, ?_⟩⟩
                · rw [hr, bs_len, Hcs.out]; simp; omega
                · rw [hr]; exact e0
              · exact Or.inl e0
            generalize txt o = to at UJ
            clear hr hg
            rcases hng with hng | ⟨rfl, hng⟩
            · obtain ⟨ei, hei⟩ : ∃ ei : Int, (e : Int) = ei := ⟨_, rfl⟩
              have ee : (ei == 0) = false := by simp; omega
              rw [hei] at UJ
              clear hei hng
              go_wp2_with (go_at_call 20; refine (UJ.out _).mono ?_; rintro e w5 ⟨rfl, b5⟩)
              go_roundw
              case rel => exact ⟨4 + 1, by omega, by go_num, HN.out, B4.out.trans (b5.mono B4.out.size)⟩
              case measure => simp [intOf]
            · rw [show ((0 : Nat) : Int) = 0 from rfl] at UJ
              have ee : (z == (k : Int) + 2) = false := by simp; omega
              clear hng
              go_wp2_with (go_at_call 20; refine (UJ.out _).mono ?_; rintro e w5 ⟨rfl, b5⟩)
              go_roundw
              case rel => exact ⟨4 + 1, by omega, by go_num, HN.out, B4.out.trans (b5.mono B4.out.size)⟩
              case measure => simp [intOf]
      · have hj5 : j = 5 := by omega
        subst hj5
        exfalso
        obtain ⟨x, hx, hg⟩ := HG.out
        obtain ⟨j', hj'⟩ := List.mem_iff_getElem?.1 hx
        have hl : j' < 5 := by
          have := (List.getElem?_eq_some_iff.1 hj').1
          simpa [ends] using this
        exact hno.out j' x hl hj' hg
end Go.Proofs.YtffhogadgjnkkaaDoor
