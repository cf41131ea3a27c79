/- The parser's 'sign': the next token, if it is a mark or a word of a level. -/
import Derived.Test.YtlenenfgedgmhaaDoorPar1
namespace Go.Proofs.YtlenenfgedgmhaaDoor
set_option linter.unusedSimpArgs false
set_option linter.unusedVariables false
open Go.RowKit

theorem find_drop1 {α : Type} {p : α → Bool} {l : List α} {k : Nat} {m : α} (h : l[k]? = some m) : (l.drop k).find? p = if p m = true then some m else (l.drop (k + 1)).find? p := by
  have hk := (List.getElem?_eq_some_iff.1 h).1
  rw [List.drop_eq_getElem_cons hk, (List.getElem?_eq_some_iff.1 h).2, List.find?_cons]
  cases p m <;> rfl
theorem signs_index (k : Nat) (hk : k < 15) (W : World) : ∃ x, signsL[k]? = some x ∧ (Instr.index 124 (.agg signsV) (.int .i64 (k : Int))).run Tryd.prog W = .ok (.agg #[.string (txt x.1), .int .i64 (x.2.1 : Int), .int .i64 (x.2.2 : Int)]) W := by
  rcases k with _ | _ | _ | _ | _ | _ | _ | _ | _ | _ | _ | _ | _ | _ | _ | k
  all_goals first | omega | exact ⟨_, rfl, by kernel_rfl⟩
/-- the test of one sign -/
def signP (l : List Tok) (n i : Nat) (x : List Nat × Nat × Nat) : Bool := decide (x.2.2 = n) && isT l i x.1
theorem signK_find (l : List Tok) (n i : Nat) : signK l n i = match signsL.find? (signP l n i) with | some x => x.2.1 | none => 0 := rfl
section
variable {q : Nat} {a : Option Addr} {c sz : Nat} {l : List Tok} {i : Nat} {W : World}
theorem Mv.setNew {W X : World} (h : Mv q W X) {p : Addr} (u : Value) (hq : q ≤ p.block) (hB : W.heap.size ≤ p.block) : Mv q W (X.setCell p u) :=
  ⟨h.low.setCell hq u, fun k h1 h2 => (Below.heap_setCell X p u k (by omega)).trans (h.high k h1 h2)⟩
theorem PSt.setFar (h : PSt q a c sz l i W) {p : Addr} (u : Value) (hp : q < p.block) : PSt q a c sz l i (W.setCell p u) :=
  h.mv ((Below.refl q W).setCell (Nat.le_of_lt hp) u) (h.box.far (Nat.ne_of_lt hp) u) h.le
/-- what it answers -/
def SignIs (q : Nat) (a : Option Addr) (c sz : Nat) (l : List Tok) (i : Nat) (W : World) : Option (List Nat × Nat × Nat) → Ending → World → Prop
  | none, e, w' => e = .returned (.tuple #[.agg #[.string ByteArray.empty, .int .i64 0, .int .i64 0], .bool false]) ∧ Mv q W w' ∧ PSt q a c sz l i w'
  | some x, e, w' => e = .returned (.tuple #[.agg #[.string (txt x.1), .int .i64 (x.2.1 : Int), .int .i64 (x.2.2 : Int)], .bool true]) ∧ Mv q W w' ∧ PSt q a c sz l (i + 1) w'
set_option maxRecDepth 100000 in
set_option maxHeartbeats 8000000 in
theorem p_sign0 (n : Nat) (h : PSt q a c sz l i W) (R : Option (List Nat × Nat × Nat)) (hR : signsL.find? (signP l n i) = R) :
    Calls Tryd.prog 72 #[.pointer (some ⟨q, 0, none⟩), .int .i64 (n : Int)] W fun e w' => SignIs q a c sz l i W R e w' := by
  obtain ⟨tt, fr, hg1⟩ := signs_block h.signs
  have H := Lib.hid h
  have HR : Hid ((signsL.drop 0).find? (signP l n i) = R) := Lib.hid hR
  have hg2 : ∀ v, (W.alloc (.cells v 113)).heap[1]? = some (.cells signsV tt fr) := fun v => ((Below.refl _ _).alloc (Nat.le_refl _) _).block 1 (Nat.lt_trans h.low h.box.lt) |>.trans hg1
  clear h hR hg1
  go_enter Tryd.func72, Tryd.ntmps72
  go_wp2_with (refine wpList_load_row rfl 124 _ rfl 1 rfl tt _ fr _ (hg2 _) Tryd.underlying124 rfl (by kernel_rfl) ?_)
  generalize hWA : World.alloc W _ = WA
  have BA : Hid (Below W.heap.size W WA) := Lib.hid (by rw [← hWA]; exact (Below.refl _ _).alloc (Nat.le_refl _) _)
  have KA : Hid (Blk WA W.heap.size 113 #[.string ByteArray.empty, .int .i64 0, .int .i64 0]) := Lib.hid (by rw [← hWA]; exact Blk.new _ _ _)
  have HA : Hid (PSt q a c sz l i WA) := Lib.hid (H.out.keep BA.out)
  have lq := H.out.box.lt
  obtain ⟨B, hB⟩ : ∃ B, W.heap.size = B := ⟨_, rfl⟩
  rw [hB] at lq KA
  rw [hB]
  have lqA := KA.out.lt
  have HB := Lib.hid hB
  have hfew := H.out.few
  have hle := H.out.le
  have i5 : (i : Int) ≤ 5000 := by omega
  have i0 : (0 : Int) ≤ (i : Int) := Int.natCast_nonneg _
  clear hWA hg2 hB hfew hle
  go_loopw [7, 9] (fun _ j wr => ∃ k : Nat, k ≤ 15 ∧ j = .int .i64 (k : Int) ∧ Hid ((signsL.drop k).find? (signP l n i) = R) ∧ Hid (Below WA.heap.size WA wr)) (fun _ j _ => 15 - (intOf j).toNat)
  case atStart => exact ⟨0, by omega, by go_num, HR, Lib.hid (Below.refl _ _)⟩
  case round =>
    obtain ⟨k, hk, rfl, hu, hw⟩ := hrel
    have Hw := hw
    clear hw
    have b1 : (0 : Int) ≤ (k : Int) := Int.natCast_nonneg _
    have KW : Blk wr B 113 #[.string ByteArray.empty, .int .i64 0, .int .i64 0] := KA.out.below Hw.out lqA
    have z0 : wr.cell? ⟨B, 0, none⟩ = some (.string ByteArray.empty) := KW.cell rfl
    have z1 : wr.cell? ⟨B, 1, none⟩ = some (.int .i64 0) := KW.cell rfl
    have z2 : wr.cell? ⟨B, 2, none⟩ = some (.int .i64 0) := KW.cell rfl
    have zf0 : wr.frozen? ⟨B, 0, none⟩ = false := KW.frozen 0
    have zf1 : wr.frozen? ⟨B, 1, none⟩ = false := KW.frozen 1
    have zf2 : wr.frozen? ⟨B, 2, none⟩ = false := KW.frozen 2
    have lB := KW.lt
    have HKW := Lib.hid KW
    have HP : Hid (PSt q a c sz l i wr) := Lib.hid (HA.out.keep Hw.out)
    obtain ⟨f0, f1, f2, f3, f4⟩ := HP.out.facts
    clear KW
    by_cases hlt : k < 15
    · obtain ⟨x, hx, _⟩ := signs_index k hlt wr
      have hidx : ∀ W, (Instr.index 124 (.agg signsV) (.int .i64 (k : Int))).run Tryd.prog W = .ok (.agg #[.string (txt x.1), .int .i64 (x.2.1 : Int), .int .i64 (x.2.2 : Int)]) W := fun W => by
        obtain ⟨x', hx', h⟩ := signs_index k hlt W
        rw [hx] at hx'
        injection hx' with hx'
        subst hx'
        exact h
      have hby : Bytes x.1 := by
        have : ∀ m ∈ signsL, ∀ n ∈ m.1, n < 256 := by decide
        exact this x (List.mem_iff_getElem?.2 ⟨k, hx⟩)
      have hf := find_drop1 (p := signP l n i) hx
      have hv := hu.out
      rw [hf] at hv
      obtain ⟨xt, xk, xl⟩ := x
      have Hby := Lib.hid hby
      by_cases hl : xl = n
      · subst hl
        obtain ⟨b, hb⟩ : ∃ b, isT l i xt = b := ⟨_, rfl⟩
        have hsp : signP l xl i (xt, xk, xl) = b := by rw [← hb]; simp [signP]
        rw [hsp] at hv
        have e1 : ((xl : Int) == (xl : Int)) = true := by simp
        have HN := Lib.hid (fun v => p_next xt hby b hb (HP.out.keep (((Below.refl _ _).alloc (Nat.le_refl _) (.cells v 113)))))
        cases b with
        | true =>
          rw [if_pos rfl] at hv
          have HV := Lib.hid hv
          have ilt : Hid (i + 1 ≤ l.length) := Lib.hid (isT_lt hb)
          clear hu hv hx hby hf hb hsp
          go_wp2_with (first
            | (go_at_call 95; (with_reducible refine (HN.out _).mono ?_); rintro e w1 ⟨rfl, nq, rfl⟩))
          have vm := Mv.of_below (q := q) (BA.out.trans (Hw.out.mono (by have := HB.out; omega))) (by have := HB.out; omega)
          have vm2 := vm.trans (Mv.of_below (q := q) (((Below.refl wr.heap.size wr).alloc (Nat.le_refl _) (.cells #[.string (txt xt), .int .i64 (xk : Int), .int .i64 (xl : Int)] 113))) (by omega))
          have hs2 := HP.out.keep (((Below.refl wr.heap.size wr).alloc (Nat.le_refl _) (.cells #[.string (txt xt), .int .i64 (xk : Int), .int .i64 (xl : Int)] 113)))
          have st := hs2.step (j := i + 1) (u := .int .i64 ((i : Int) + 1)) (by go_num) ilt.out nq
          have hBW := HB.out
          have hv := HV.out
          subst hv
          have hmv := (((vm2.trans st.1).setNew (p := ⟨B, 0, none⟩) (.string (txt xt)) (by show q ≤ B; omega) (by show W.heap.size ≤ B; omega)).setNew (p := ⟨B, 1, none⟩) (.int .i64 (xk : Int)) (by show q ≤ B; omega) (by show W.heap.size ≤ B; omega)).setNew (p := ⟨B, 2, none⟩) (.int .i64 (xl : Int)) (by show q ≤ B; omega) (by show W.heap.size ≤ B; omega)
          have hps := ((st.2.setFar (p := ⟨B, 0, none⟩) (.string (txt xt)) (by show q < B; omega)).setFar (p := ⟨B, 1, none⟩) (.int .i64 (xk : Int)) (by show q < B; omega)).setFar (p := ⟨B, 2, none⟩) (.int .i64 (xl : Int)) (by show q < B; omega)
          have hka : Blk ((wr.alloc (.cells #[.string (txt xt), .int .i64 (xk : Int), .int .i64 (xl : Int)] 113)).drewN nq) B 113 #[.string ByteArray.empty, .int .i64 0, .int .i64 0] := HKW.out.alloc _
          have hkb : Blk _ B 113 _ := (((hka.far (p := ⟨q, 1, none⟩) (by show B ≠ q; omega) (.int .i64 ((i : Int) + 1))).set_ 0 (.string (txt xt))).set_ 1 (.int .i64 (xk : Int))).set_ 2 (.int .i64 (xl : Int))
          generalize hwf : World.setCell (World.setCell (World.setCell _ _ _) _ _) _ _ = wf
          have hmv' : Mv q W wf := by rw [← hwf]; exact hmv
          have hps' : PSt q a c sz l (i + 1) wf := by rw [← hwf]; exact hps
          have c0 : wf.cell? ⟨B, 0, none⟩ = some (.string (txt xt)) := by rw [← hwf]; exact hkb.cell rfl
          have c1 : wf.cell? ⟨B, 1, none⟩ = some (.int .i64 (xk : Int)) := by rw [← hwf]; exact hkb.cell rfl
          have c2 : wf.cell? ⟨B, 2, none⟩ = some (.int .i64 (xl : Int)) := by rw [← hwf]; exact hkb.cell rfl
          clear hwf hmv hps hkb vm vm2 hs2 st
          refine bodyPost_ret (v := .tuple #[.agg #[.string (txt xt), .int .i64 (xk : Int), .int .i64 (xl : Int)], .bool true]) (by simp [results, Tryd.results72, go_sem, c0, c1, c2]) rfl ?_
          exact ⟨rfl, hmv', hps'⟩
        | false =>
          rw [if_neg (by simp)] at hv
          have HV := Lib.hid hv
          clear hu hv hx hby hf hb hsp
          go_wp2_with (first
            | (go_at_call 95; (with_reducible refine (HN.out _).mono ?_); rintro e w1 ⟨rfl, nq, rfl⟩))
          go_roundw
          case rel => exact ⟨k + 1, by omega, by go_num, HV, Lib.hid (below_drewN (Hw.out.alloc Hw.out.size _) _)⟩
          case measure => simp [intOf]; omega
      · have hsp : signP l n i (xt, xk, xl) = false := by simp [signP, hl]
        rw [hsp, if_neg (by simp)] at hv
        have HV := Lib.hid hv
        have e1 : ((xl : Int) == (n : Int)) = false := by simp; omega
        clear hu hv hx hby hf hsp hl
        go_wp2_with fail
        go_roundw
        case rel => exact ⟨k + 1, by omega, by go_num, HV, Lib.hid (Hw.out.alloc Hw.out.size _)⟩
        case measure => simp [intOf]; omega
    · have hk15 : k = 15 := by omega
      subst hk15
      have hv := hu.out
      rw [show (signsL.drop 15) = [] from rfl, List.find?_nil] at hv
      subst hv
      have hdec : decide (((15 : Nat) : Int) < 15) = false := by decide
      clear hu
      go_wp2_with fail
      have vm := Mv.of_below (q := q) (BA.out.trans (Hw.out.mono (by have := HB.out; omega))) (by have := HB.out; omega)
      have hBW := HB.out
      have hmv := ((vm.setNew (p := ⟨B, 0, none⟩) (.string ByteArray.empty) (by show q ≤ B; omega) (by show W.heap.size ≤ B; omega)).setNew (p := ⟨B, 1, none⟩) (.int .i64 0) (by show q ≤ B; omega) (by show W.heap.size ≤ B; omega)).setNew (p := ⟨B, 2, none⟩) (.int .i64 0) (by show q ≤ B; omega) (by show W.heap.size ≤ B; omega)
      have hps := ((HP.out.setFar (p := ⟨B, 0, none⟩) (.string ByteArray.empty) (by show q < B; omega)).setFar (p := ⟨B, 1, none⟩) (.int .i64 0) (by show q < B; omega)).setFar (p := ⟨B, 2, none⟩) (.int .i64 0) (by show q < B; omega)
      have hkb : Blk _ B 113 _ := ((HKW.out.set_ 0 (.string ByteArray.empty)).set_ 1 (.int .i64 0)).set_ 2 (.int .i64 0)
      generalize hwf : World.setCell (World.setCell (World.setCell _ _ _) _ _) _ _ = wf
      have hmv' : Mv q W wf := by rw [← hwf]; exact hmv
      have hps' : PSt q a c sz l i wf := by rw [← hwf]; exact hps
      have c0 : wf.cell? ⟨B, 0, none⟩ = some (.string ByteArray.empty) := by rw [← hwf]; exact hkb.cell rfl
      have c1 : wf.cell? ⟨B, 1, none⟩ = some (.int .i64 0) := by rw [← hwf]; exact hkb.cell rfl
      have c2 : wf.cell? ⟨B, 2, none⟩ = some (.int .i64 0) := by rw [← hwf]; exact hkb.cell rfl
      clear hwf hmv hps hkb vm z0 z1 z2
      refine bodyPost_ret (v := .tuple #[.agg #[.string ByteArray.empty, .int .i64 0, .int .i64 0], .bool false]) (by simp [results, Tryd.results72, go_sem, c0, c1, c2]) rfl ?_
      exact ⟨rfl, hmv', hps'⟩
end
end Go.Proofs.YtlenenfgedgmhaaDoor
