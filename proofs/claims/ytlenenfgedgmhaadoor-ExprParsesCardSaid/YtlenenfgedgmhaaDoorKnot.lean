/- The parser's functions, each reads as the grammar says, wherever that is told. -/
import Derived.Test.YtlenenfgedgmhaaDoorPrim
namespace Go.Proofs.YtlenenfgedgmhaaDoor
set_option linter.unusedSimpArgs false
set_option linter.unusedVariables false
open Go.RowKit

section
variable {q : Nat} {a : Option Addr} {c sz : Nat} {l : List Tok} {i : Nat} {W : World}
theorem pL_row (l : List Tok) (f n i : Nat) (h3 : n ≠ 3) (h7 : n ≠ 7) : pL l (f + 1) n i = rowR l f n i := by
  rw [pL, if_neg h3, if_neg h7]
  rfl
set_option maxRecDepth 100000 in
set_option maxHeartbeats 4000000 in
theorem p_or (f : Nat) (HB : ∀ f', f' ≤ f → LevelC q a c sz l 46 (fun i => pL l f' 2 i)) : LevelC q a c sz l 23 (fun i => pL l (f + 1) 1 i) := by
  intro i W h hr
  have hr0 : pL l (f + 1) 1 i = rowR l f 1 i := pL_row l f 1 i (by omega) (by omega)
  simp only at hr ⊢
  rw [hr0] at hr ⊢
  have HX : Hid (Calls Tryd.prog 45 #[.pointer (some ⟨q, 0, none⟩), .int .i64 1, .func (.func 46) #[.pointer (some ⟨q, 0, none⟩)] #[], .bool false] W (Reads q a c sz l W (rowR l f 1 i))) := Lib.hid (p_row 1 f 46 false (by decide) (fun _ _ => rfl) HB h hr)
  have hmf : ∀ (fn : Fn) (first cap : Array Value) (w : World), (Instr.makeFunc fn first cap).run Tryd.prog w = .ok (.func fn first cap) w := fun _ _ _ _ => rfl
  obtain ⟨r, hrr⟩ : ∃ r, rowR l f 1 i = r := ⟨_, rfl⟩
  rw [hrr] at hr HX ⊢
  clear hr0 HB h hrr
  cases r with
  | out => exact absurd rfl hr
  | no j =>
    clear hr
    go_enter Tryd.func23, Tryd.ntmps23
    go_wp2_with (first
      | (go_at_call 45; refine HX.out.mono ?_; rintro e w1 ⟨rfl, h1⟩; have M1 := Lib.hid h1; clear h1))
    exact ⟨rfl, rfl, M1.out⟩
  | ok t j =>
    clear hr
    go_enter Tryd.func23, Tryd.ntmps23
    go_wp2_with (first
      | (go_at_call 45; refine HX.out.mono ?_; rintro e w1 h1; obtain ⟨g, rfl, h3, h4, h5⟩ := h1.get; have M1 := Lib.hid (And.intro h3 (And.intro h4 h5)); clear h1 h3 h4 h5))
    go_ret
    exact Reads.mk_ M1.out.1 M1.out.2.1 M1.out.2.2
set_option maxRecDepth 100000 in
set_option maxHeartbeats 4000000 in
theorem p_and (f : Nat) (HB : ∀ f', f' ≤ f → LevelC q a c sz l 74 (fun i => pL l f' 3 i)) : LevelC q a c sz l 46 (fun i => pL l (f + 1) 2 i) := by
  intro i W h hr
  have hr0 : pL l (f + 1) 2 i = rowR l f 2 i := pL_row l f 2 i (by omega) (by omega)
  simp only at hr ⊢
  rw [hr0] at hr ⊢
  have HX : Hid (Calls Tryd.prog 45 #[.pointer (some ⟨q, 0, none⟩), .int .i64 2, .func (.func 74) #[.pointer (some ⟨q, 0, none⟩)] #[], .bool false] W (Reads q a c sz l W (rowR l f 2 i))) := Lib.hid (p_row 2 f 74 false (by decide) (fun _ _ => rfl) HB h hr)
  have hmf : ∀ (fn : Fn) (first cap : Array Value) (w : World), (Instr.makeFunc fn first cap).run Tryd.prog w = .ok (.func fn first cap) w := fun _ _ _ _ => rfl
  obtain ⟨r, hrr⟩ : ∃ r, rowR l f 2 i = r := ⟨_, rfl⟩
  rw [hrr] at hr HX ⊢
  clear hr0 HB h hrr
  cases r with
  | out => exact absurd rfl hr
  | no j =>
    clear hr
    go_enter Tryd.func46, Tryd.ntmps46
    go_wp2_with (first
      | (go_at_call 45; refine HX.out.mono ?_; rintro e w1 ⟨rfl, h1⟩; have M1 := Lib.hid h1; clear h1))
    exact ⟨rfl, rfl, M1.out⟩
  | ok t j =>
    clear hr
    go_enter Tryd.func46, Tryd.ntmps46
    go_wp2_with (first
      | (go_at_call 45; refine HX.out.mono ?_; rintro e w1 h1; obtain ⟨g, rfl, h3, h4, h5⟩ := h1.get; have M1 := Lib.hid (And.intro h3 (And.intro h4 h5)); clear h1 h3 h4 h5))
    go_ret
    exact Reads.mk_ M1.out.1 M1.out.2.1 M1.out.2.2
set_option maxRecDepth 100000 in
set_option maxHeartbeats 4000000 in
theorem p_cmp (f : Nat) (HB : ∀ f', f' ≤ f → LevelC q a c sz l 106 (fun i => pL l f' 5 i)) : LevelC q a c sz l 96 (fun i => pL l (f + 1) 4 i) := by
  intro i W h hr
  have hr0 : pL l (f + 1) 4 i = rowR l f 4 i := pL_row l f 4 i (by omega) (by omega)
  simp only at hr ⊢
  rw [hr0] at hr ⊢
  have HX : Hid (Calls Tryd.prog 45 #[.pointer (some ⟨q, 0, none⟩), .int .i64 4, .func (.func 106) #[.pointer (some ⟨q, 0, none⟩)] #[], .bool true] W (Reads q a c sz l W (rowR l f 4 i))) := Lib.hid (p_row 4 f 106 true (by decide) (fun _ _ => rfl) HB h hr)
  have hmf : ∀ (fn : Fn) (first cap : Array Value) (w : World), (Instr.makeFunc fn first cap).run Tryd.prog w = .ok (.func fn first cap) w := fun _ _ _ _ => rfl
  obtain ⟨r, hrr⟩ : ∃ r, rowR l f 4 i = r := ⟨_, rfl⟩
  rw [hrr] at hr HX ⊢
  clear hr0 HB h hrr
  cases r with
  | out => exact absurd rfl hr
  | no j =>
    clear hr
    go_enter Tryd.func96, Tryd.ntmps96
    go_wp2_with (first
      | (go_at_call 45; refine HX.out.mono ?_; rintro e w1 ⟨rfl, h1⟩; have M1 := Lib.hid h1; clear h1))
    exact ⟨rfl, rfl, M1.out⟩
  | ok t j =>
    clear hr
    go_enter Tryd.func96, Tryd.ntmps96
    go_wp2_with (first
      | (go_at_call 45; refine HX.out.mono ?_; rintro e w1 h1; obtain ⟨g, rfl, h3, h4, h5⟩ := h1.get; have M1 := Lib.hid (And.intro h3 (And.intro h4 h5)); clear h1 h3 h4 h5))
    go_ret
    exact Reads.mk_ M1.out.1 M1.out.2.1 M1.out.2.2
set_option maxRecDepth 100000 in
set_option maxHeartbeats 4000000 in
theorem p_sum (f : Nat) (HB : ∀ f', f' ≤ f → LevelC q a c sz l 112 (fun i => pL l f' 6 i)) : LevelC q a c sz l 106 (fun i => pL l (f + 1) 5 i) := by
  intro i W h hr
  have hr0 : pL l (f + 1) 5 i = rowR l f 5 i := pL_row l f 5 i (by omega) (by omega)
  simp only at hr ⊢
  rw [hr0] at hr ⊢
  have HX : Hid (Calls Tryd.prog 45 #[.pointer (some ⟨q, 0, none⟩), .int .i64 5, .func (.func 112) #[.pointer (some ⟨q, 0, none⟩)] #[], .bool false] W (Reads q a c sz l W (rowR l f 5 i))) := Lib.hid (p_row 5 f 112 false (by decide) (fun _ _ => rfl) HB h hr)
  have hmf : ∀ (fn : Fn) (first cap : Array Value) (w : World), (Instr.makeFunc fn first cap).run Tryd.prog w = .ok (.func fn first cap) w := fun _ _ _ _ => rfl
  obtain ⟨r, hrr⟩ : ∃ r, rowR l f 5 i = r := ⟨_, rfl⟩
  rw [hrr] at hr HX ⊢
  clear hr0 HB h hrr
  cases r with
  | out => exact absurd rfl hr
  | no j =>
    clear hr
    go_enter Tryd.func106, Tryd.ntmps106
    go_wp2_with (first
      | (go_at_call 45; refine HX.out.mono ?_; rintro e w1 ⟨rfl, h1⟩; have M1 := Lib.hid h1; clear h1))
    exact ⟨rfl, rfl, M1.out⟩
  | ok t j =>
    clear hr
    go_enter Tryd.func106, Tryd.ntmps106
    go_wp2_with (first
      | (go_at_call 45; refine HX.out.mono ?_; rintro e w1 h1; obtain ⟨g, rfl, h3, h4, h5⟩ := h1.get; have M1 := Lib.hid (And.intro h3 (And.intro h4 h5)); clear h1 h3 h4 h5))
    go_ret
    exact Reads.mk_ M1.out.1 M1.out.2.1 M1.out.2.2
set_option maxRecDepth 100000 in
set_option maxHeartbeats 4000000 in
theorem p_prod (f : Nat) (HB : ∀ f', f' ≤ f → LevelC q a c sz l 119 (fun i => pL l f' 7 i)) : LevelC q a c sz l 112 (fun i => pL l (f + 1) 6 i) := by
  intro i W h hr
  have hr0 : pL l (f + 1) 6 i = rowR l f 6 i := pL_row l f 6 i (by omega) (by omega)
  simp only at hr ⊢
  rw [hr0] at hr ⊢
  have HX : Hid (Calls Tryd.prog 45 #[.pointer (some ⟨q, 0, none⟩), .int .i64 6, .func (.func 119) #[.pointer (some ⟨q, 0, none⟩)] #[], .bool false] W (Reads q a c sz l W (rowR l f 6 i))) := Lib.hid (p_row 6 f 119 false (by decide) (fun _ _ => rfl) HB h hr)
  have hmf : ∀ (fn : Fn) (first cap : Array Value) (w : World), (Instr.makeFunc fn first cap).run Tryd.prog w = .ok (.func fn first cap) w := fun _ _ _ _ => rfl
  obtain ⟨r, hrr⟩ : ∃ r, rowR l f 6 i = r := ⟨_, rfl⟩
  rw [hrr] at hr HX ⊢
  clear hr0 HB h hrr
  cases r with
  | out => exact absurd rfl hr
  | no j =>
    clear hr
    go_enter Tryd.func112, Tryd.ntmps112
    go_wp2_with (first
      | (go_at_call 45; refine HX.out.mono ?_; rintro e w1 ⟨rfl, h1⟩; have M1 := Lib.hid h1; clear h1))
    exact ⟨rfl, rfl, M1.out⟩
  | ok t j =>
    clear hr
    go_enter Tryd.func112, Tryd.ntmps112
    go_wp2_with (first
      | (go_at_call 45; refine HX.out.mono ?_; rintro e w1 h1; obtain ⟨g, rfl, h3, h4, h5⟩ := h1.get; have M1 := Lib.hid (And.intro h3 (And.intro h4 h5)); clear h1 h3 h4 h5))
    go_ret
    exact Reads.mk_ M1.out.1 M1.out.2.1 M1.out.2.2
/-- all of them, up to some fuel -/
theorem p_all (q : Nat) (a : Option Addr) (c sz : Nat) (l : List Tok) : ∀ F f : Nat, f ≤ F → LevelC q a c sz l 23 (fun i => pL l f 1 i) ∧ LevelC q a c sz l 46 (fun i => pL l f 2 i) ∧ LevelC q a c sz l 74 (fun i => pL l f 3 i) ∧ LevelC q a c sz l 96 (fun i => pL l f 4 i) ∧ LevelC q a c sz l 106 (fun i => pL l f 5 i) ∧ LevelC q a c sz l 112 (fun i => pL l f 6 i) ∧ LevelC q a c sz l 119 (fun i => pL l f 7 i) ∧ LevelC q a c sz l 122 (fun i => pP l f i) := by
  have zero : ∀ (fn : FuncId) (n : Nat), LevelC q a c sz l fn (fun i => pL l 0 n i) := fun fn n i W h hr => absurd (by simp only [pL]) hr
  intro F
  induction F with
  | zero =>
    intro f hf
    obtain rfl : f = 0 := by omega
    exact ⟨zero _ _, zero _ _, zero _ _, zero _ _, zero _ _, zero _ _, zero _ _, fun i W h hr => absurd (by simp only [pP]) hr⟩
  | succ F ih =>
    intro f hf
    rcases Nat.lt_or_ge f (F + 1) with h1 | h1
    · exact ih f (by omega)
    · obtain rfl : f = F + 1 := by omega
      have hF := ih F (Nat.le_refl _)
      exact ⟨p_or F (fun f' h => (ih f' h).2.1), p_and F (fun f' h => (ih f' h).2.2.1), p_not F hF.2.2.1 hF.2.2.2.1, p_cmp F (fun f' h => (ih f' h).2.2.2.2.1), p_sum F (fun f' h => (ih f' h).2.2.2.2.2.1), p_prod F (fun f' h => (ih f' h).2.2.2.2.2.2.1), p_post F hF.2.2.2.2.2.2.2, p_prim F hF.1⟩
/-- the parser reads a row of tokens as the grammar says -/
theorem p_top (h : PSt q a c sz l 0 W) : Calls Tryd.prog 23 #[.pointer (some ⟨q, 0, none⟩)] W (Reads q a c sz l W (pL l (12 * l.length + 10) 1 0)) := by
  refine (p_all q a c sz l (12 * l.length + 10) (12 * l.length + 10) (Nat.le_refl _)).1 0 W h ?_
  intro e
  have := parse_told l
  simp only at e
  rw [e] at this
  exact this
end
end Go.Proofs.YtlenenfgedgmhaaDoor
