/- Taken over out of another chapter (its text CpW): what is needed here. -/
import Derived.Test.YtdkoafmgenbkbaaDoorProg
import Derived.Test.YtdkoafmgenbkbaaDoorShelf
import Derived.Test.YtdkoafmgenbkbaaDoorCards
import Derived.Test.YtdkoafmgenbkbaaDoorTie
import Derived.Test.YtdkoafmgenbkbaaDoorKM1
import Derived.Test.YtdkoafmgenbkbaaDoorKM2
import Derived.Test.YtdkoafmgenbkbaaDoorKM3
import Derived.Test.YtdkoafmgenbkbaaDoorKM4
import Derived.Below
import Derived.BigQuiet
import Derived.BigRegion
import Derived.Deep.AppendLies
import Derived.Deep.CutBlock
import Derived.Deep.CutRange
import Derived.Deep.Draws
import Derived.Deep.Fields
import Derived.Deep.LoopGhost
import Derived.Deep.QuietTactic
import Derived.Deep.RegionHeld2
import Derived.Deep.RegionHeld3
import Derived.Deep.RegionLaw
import Derived.Deep.Slices
import Derived.Defers
import Derived.IntWalk
import Derived.Laws.BytesString
import Derived.Laws.Cover1
import Derived.Laws.EntriesVeiled
import Derived.Laws.IdiomStrings
import Derived.Laws.MakeOwn
import Derived.Laws.Pointers
import Derived.Laws.Rows
import Derived.Lib.AppendStr
import Derived.Lib.Builder
import Derived.Lib.CutLaws
import Derived.Lib.FrozenHead
import Derived.Lib.Hide
import Derived.Lib.ItoaNum
import Derived.Lib.ParseIntB
import Derived.Lib.SliceRun
import Derived.Lib.SlicesS
import Derived.Maps.AppendAt
import Derived.Orders
import Derived.Outline
import Derived.OwnWalk
import Derived.ProofKit
import Derived.Recover
import Derived.RegionTactic
import Derived.StillTailTactics
import Derived.Tactics
import Derived.Tactics2
import Derived.WalkKit
import Derived.WalkMore
import Derived.WalkSmall
import Derived.WalkSpells
namespace Go.Proofs.YtdkoafmgenbkbaaDoor
set_option linter.unusedSimpArgs false
set_option linter.unusedVariables false
open Go.RowKit
set_option maxRecDepth 100000 in
set_option maxHeartbeats 8000000 in
theorem rloops_any {l : List ND} {v : Value} (w w0 : World) (hs : SlR w0 w0.heap.size 4 (ND.Is w0 w0.heap.size) v l) (hok : ∀ d ∈ l, NdOk d) (hw : Below w0.heap.size w0 w) (a : Nat) (ha : a < l.length) (hl : l.length ≤ 256) (s : List Nat) (hb : Bytes s) :
    Calls Tryd.prog 57 #[.agg #[v], .int .i64 (a : Int), .string (txt s)] w fun e w' => e = .returned (.int .i64 (loopsN l (a + 1) (a : Int) s 0)) ∧ Below w.heap.size w w' := by
  obtain ⟨va, vc, rfl, _, _⟩ := hs.form
  obtain ⟨nl, hnl⟩ : ∃ x, l.length = x := ⟨_, rfl⟩
  rw [hnl] at hs ha hl ⊢
  have HS := Lib.hid hs
  have HW := Lib.hid hw
  have HNL := Lib.hid hnl
  have HOK := Lib.hid hok
  have HBS := Lib.hid hb
  have B0 : Hid (Blk (w.alloc (.cells #[.slice va nl vc] 38)) w.heap.size 38 #[.slice va nl vc]) := Lib.hid (Blk.new _ _ _)
  clear hs hw hnl hok hb
  go_enter Tryd.func57, Tryd.ntmps57
  go_wp2_with fail
  have e0 : (w.alloc (.cells #[.slice va nl vc] 38)).cell? ⟨w.heap.size, 0, none⟩ = some (.slice va nl vc) := B0.out.cell rfl
  have HB0 := Lib.hid ((Below.refl w.heap.size w).alloc (Nat.le_refl _) (.cells #[.slice va nl vc] 38))
  have HB6 := Lib.hid (HW.out.alloc HW.out.size (.cells #[.slice va nl vc] 38))
  obtain ⟨q, hq⟩ : ∃ q, w.heap.size = q := ⟨_, rfl⟩
  generalize hW1 : w.alloc (.cells #[.slice va nl vc] 38) = W1 at *
  rw [hq] at B0 e0 ⊢
  clear hW1
  go_loopw [1, 7] (fun v1 v7 wr => ∃ (b : Int) (f : Nat) (n : Int), -1 ≤ b ∧ b < f ∧ f ≤ a + 1 ∧ 0 ≤ n ∧ n + f ≤ a + 1 ∧ v1 = .int .i64 b ∧ v7 = .int .i64 n ∧ Hid (loopsN l f b s n = loopsN l (a + 1) (a : Int) s 0) ∧ Quiet W1 wr) (fun v1 _ _ => (intOf v1 + 1).toNat)
  case atStart => exact ⟨a, a + 1, 0, by omega, by omega, Nat.le_refl _, by omega, by omega, rfl, rfl, Lib.hid rfl, Quiet.refl _⟩
  case round =>
    obtain ⟨b, f, n, b1, b2, b3, n0, n1, rfl, rfl, hlp, dn, rfl⟩ := hrel
    have e1 : (W1.drewN dn).cell? ⟨q, 0, none⟩ = some (.slice va nl vc) := e0
    by_cases hb : b < 0
    · have hv : loopsN l (a + 1) (a : Int) s 0 = -1 := by rw [← hlp.out, show b = -1 by omega, loopsN_neg]
      have HV := Lib.hid hv
      have d1 : decide (0 ≤ b) = false := by simp; omega
      clear hv hb
      go_wp2_with fail
      go_ret
      exact ⟨by rw [HV.out]; rfl, below_drewN HB0.out dn⟩
    · have d1 : decide (0 ≤ b) = true := by simp; omega
      obtain ⟨m, rfl⟩ : ∃ m : Nat, b = m := ⟨b.toNat, by omega⟩
      clear hb
      go_upto_block 2 with fail
      go_cut [8, 9, 10, 11] from 14 to 42 (fun v8 v9 _ _ wx => v8 = .int .i64 (upN l (m : Int)).1 ∧ v9 = .int .i64 (upN l (m : Int)).2 ∧ wx = W1.drewN dn)
      case first =>
        go_wp2_with fail
        go_loopw [8, 9, 10] (fun v8 v9 v10 wx => ∃ i : Nat, i ≤ m ∧ v10 = .int .i64 (i : Int) ∧ v8 = .int .i64 (upTo l (m : Int) i).1 ∧ v9 = .int .i64 (upTo l (m : Int) i).2 ∧ wx = W1.drewN dn) (fun _ _ v10 _ => m - (intOf v10).toNat)
        case atStart => exact ⟨0, Nat.zero_le _, rfl, rfl, rfl, rfl⟩
        case round =>
          obtain ⟨i, hi, rfl, rfl, rfl, rfl⟩ := hrel
          by_cases hlt : i < m
          · obtain ⟨d, hd⟩ := get_some HNL.out (show i < nl by omega)
            obtain ⟨bb, off, x, rfl, hbB, hxl, ⟨kv, rfl, hkv⟩, hx⟩ := (HS.out.below HB6.out).at_ hd
            obtain ⟨ka, kc, rfl, _, _⟩ := hkv.form
            have x3 := hx 3 _ rfl
            have x3' : (W1.drewN dn).cell? ⟨bb, off + i * 4 + 3, none⟩ = _ := x3
            obtain ⟨nk, hnk⟩ : ∃ z, d.kids.length = z := ⟨_, rfl⟩
            rw [hnk] at x3 x3' hkv
            have nk63 : nk ≤ 9223372036854775807 := by have := hkv.caps; unfold maxLen at this; omega
            have HKV := Lib.hid hkv
            have HNK := Lib.hid hnk
            have i0 : (0 : Int) ≤ (i : Int) := Int.natCast_nonneg _
            have i1 : (i : Int) < (nl : Int) := by omega
            have hup : Hid (upTo l (m : Int) (i + 1) = kidUp (m : Int) i 0 d.kids (upTo l (m : Int) i)) := Lib.hid (by simp only [upTo]; rw [hd])
            obtain ⟨acc, hacc⟩ : ∃ z, upTo l (m : Int) i = z := ⟨_, rfl⟩
            rw [hacc] at hup ⊢
            clear hd hxl hx hkv hnk hacc
            go_wp2_with fail
            go_loopw [8, 9, 11] (fun v8 v9 v11 wx => ∃ k : Nat, k ≤ nk ∧ v11 = .int .i64 (k : Int) ∧ v8 = .int .i64 (kidUp (m : Int) i 0 (d.kids.take k) acc).1 ∧ v9 = .int .i64 (kidUp (m : Int) i 0 (d.kids.take k) acc).2 ∧ wx = W1.drewN dn) (fun _ _ v11 _ => nk - (intOf v11).toNat)
            case atStart => exact ⟨0, Nat.zero_le _, rfl, rfl, rfl, rfl⟩
            case round =>
              obtain ⟨k, hk, rfl, rfl, rfl, rfl⟩ := hrel
              by_cases hlk : k < nk
              · obtain ⟨y, hy⟩ := get_some HNK.out hlk
                obtain ⟨kb, ko, z, rfl, hz, hzl, rfl, hzx⟩ := (HKV.out.below HB6.out).at_ hy
                have z0 := hzx 0 _ rfl
                simp only [Nat.add_zero, Nat.mul_one] at z0
                have k0 : (0 : Int) ≤ (k : Int) := Int.natCast_nonneg _
                have k1 : (k : Int) < (nk : Int) := by omega
                have z0' : (W1.drewN dn).cell? ⟨kb, ko + k, none⟩ = _ := z0
                have hsn := kidUp_snoc (a := (m : Int)) (i := i) (d.kids.take k) 0 y acc
                have htk : d.kids.take (k + 1) = d.kids.take k ++ [y] := by rw [List.take_add_one, hy]; rfl
                have htl : (d.kids.take k).length = k := by rw [List.length_take, HNK.out]; omega
                rw [← htk, htl, Nat.zero_add] at hsn
                have HSN := Lib.hid hsn
                clear hy hz hzl hzx hsn htk htl
                by_cases hym : y = (m : Int)
                · have d2 : (y == (m : Int)) = true := by rw [hym]; simp
                  have HYM := Lib.hid hym
                  clear hym
                  go_wp2_with fail
                  go_roundw
                  case rel => exact ⟨k + 1, by omega, by go_num, by rw [HSN.out, if_pos HYM.out], by rw [HSN.out, if_pos HYM.out], by trivial⟩
                  case measure => simp [intOf]; omega
                · have d2 : (y == (m : Int)) = false := by simpa using hym
                  have HYM := Lib.hid hym
                  clear hym
                  go_wp2_with fail
                  go_roundw
                  case rel => exact ⟨k + 1, by omega, by go_num, by rw [HSN.out, if_neg HYM.out], by rw [HSN.out, if_neg HYM.out], by trivial⟩
                  case measure => simp [intOf]; omega
              · have hkn : d.kids.take k = d.kids := List.take_of_length_le (by rw [HNK.out]; omega)
                rw [hkn, ← hup.out]
                have hkk : k = nk := by omega
                subst hkk
                clear hlk hkn hk
                go_wp2_with fail
                go_roundw
                case rel => exact ⟨i + 1, by omega, by go_num, rfl, rfl, by trivial⟩
                case measure => simp [intOf]; omega
          · have him : i = m := by omega
            subst him
            clear hlt
            go_wp2_with fail
            go_meet
            exact ⟨rfl, rfl, rfl⟩
      case rest =>
        obtain ⟨rfl, rfl, rfl⟩ := hcut
        obtain ⟨u1, u2⟩ := upN_lt (l := l) (a := (m : Int)) (by omega)
        obtain ⟨up, kid, hup⟩ : ∃ up kid, upN l (m : Int) = (up, kid) := ⟨_, _, rfl⟩
        have hfn : Hid (∀ f', f = f' + 1 → loopsN l f (m : Int) s n = if isLoop l (up, kid) = true then (if hasName l (up, kid) s = true then n else loopsN l f' up s (n + 1)) else loopsN l f' up s n) := Lib.hid (fun f' e => by subst e; simp only [loopsN]; rw [if_neg (by omega), hup])
        rw [hup] at u1 u2 ⊢
        clear hup
        obtain ⟨g, rfl⟩ : ∃ g, f = g + 1 := ⟨f - 1, by omega⟩
        have hfg := hfn.out g rfl
        clear hfn
        by_cases hu0 : 0 ≤ up
        · obtain ⟨pu, rfl⟩ : ∃ z : Nat, up = z := ⟨up.toNat, by omega⟩
          have d3 : decide ((0 : Int) ≤ (pu : Int)) = true := by simp
          by_cases hk1 : kid = 1
          · subst hk1
            obtain ⟨d, hd⟩ := get_some HNL.out (show pu < nl by omega)
            obtain ⟨bb, off, x, rfl, hbB, hxl, ⟨kv, rfl, hkv⟩, hx⟩ := (HS.out.below HB6.out).at_ hd
            have x0 := hx 0 _ rfl
            have x1 := hx 1 _ rfl
            simp only [Nat.add_zero] at x0
            have x0' : (W1.drewN dn).cell? ⟨bb, off + pu * 4, none⟩ = _ := x0
            have x1' : (W1.drewN dn).cell? ⟨bb, off + pu * 4 + 1, none⟩ = _ := x1
            have p1 : (pu : Int) < (nl : Int) := by omega
            have LA := Lib.hid (rloop_any d.kind)
            have hil : isLoop l ((pu : Int), 1) = decide (31 ≤ d.kind ∧ d.kind ≤ 34) := by unfold isLoop; simp only [Int.toNat_natCast]; rw [hd]; simp
            have hhn : hasName l ((pu : Int), 1) s = decide (d.text = s) := by unfold hasName; simp only [Int.toNat_natCast]; rw [hd]
            have htx := txt_eq (HOK.out d (List.mem_iff_getElem?.2 ⟨pu, hd⟩)).1 HBS.out
            rw [hil, hhn] at hfg
            clear hd hxl hx hkv hil hhn
            by_cases hlo : 31 ≤ d.kind ∧ d.kind ≤ 34
            · rw [decide_eq_true hlo] at LA hfg
              clear hlo
              by_cases ht : d.text = s
              · have d5 : ((txt d.text).toList == (txt s).toList) = true := by rw [htx]; exact decide_eq_true ht
                rw [decide_eq_true ht, if_pos rfl, if_pos rfl, hlp.out] at hfg
                have HV := Lib.hid hfg
                clear htx ht hfg
                go_wp2_with (first
                  | (go_at_call 59; go_must (refine (LA.out _).mono ?_); rintro e w4 ⟨rfl, nq, rfl⟩; have x0'' : (W1.drewN (dn + nq)).cell? ⟨bb, off + pu * 4, none⟩ = _ := x0; have x1'' : (W1.drewN (dn + nq)).cell? ⟨bb, off + pu * 4 + 1, none⟩ = _ := x1; have e1'' : (W1.drewN (dn + nq)).cell? ⟨q, 0, none⟩ = some (.slice (some ⟨bb, off, none⟩) nl vc) := e0; simp only [World.drewN_drewN])
                  | fail)
                go_ret
                exact ⟨by rw [HV.out]; rfl, below_drewN (by first | exact HB0.out | (rw [← hq]; exact HB0.out)) _⟩
              · have d5 : ((txt d.text).toList == (txt s).toList) = false := by rw [htx]; exact decide_eq_false ht
                rw [decide_eq_false ht, if_pos rfl, if_neg (by simp), hlp.out] at hfg
                have HLP := Lib.hid hfg.symm
                clear htx ht hfg
                go_wp2_with (first
                  | (go_at_call 59; go_must (refine (LA.out _).mono ?_); rintro e w4 ⟨rfl, nq, rfl⟩; have x0'' : (W1.drewN (dn + nq)).cell? ⟨bb, off + pu * 4, none⟩ = _ := x0; have x1'' : (W1.drewN (dn + nq)).cell? ⟨bb, off + pu * 4 + 1, none⟩ = _ := x1; have e1'' : (W1.drewN (dn + nq)).cell? ⟨q, 0, none⟩ = some (.slice (some ⟨bb, off, none⟩) nl vc) := e0; simp only [World.drewN_drewN])
                  | fail)
                go_roundw
                case rel => exact ⟨(pu : Int), g, n + 1, by omega, by omega, by omega, by omega, by omega, rfl, by go_num, Lib.hid HLP.out, _, by trivial⟩
                case measure => simp [intOf]; omega
            · rw [decide_eq_false hlo] at LA hfg
              rw [if_neg (by simp), hlp.out] at hfg
              have HLP := Lib.hid hfg.symm
              clear hlo htx hfg
              go_wp2_with (first
                | (go_at_call 59; go_must (refine (LA.out _).mono ?_); rintro e w4 ⟨rfl, nq, rfl⟩; have x0'' : (W1.drewN (dn + nq)).cell? ⟨bb, off + pu * 4, none⟩ = _ := x0; have x1'' : (W1.drewN (dn + nq)).cell? ⟨bb, off + pu * 4 + 1, none⟩ = _ := x1; have e1'' : (W1.drewN (dn + nq)).cell? ⟨q, 0, none⟩ = some (.slice (some ⟨bb, off, none⟩) nl vc) := e0; simp only [World.drewN_drewN])
                | fail)
              go_roundw
              case rel => exact ⟨(pu : Int), g, n, by omega, by omega, by omega, by omega, by omega, rfl, rfl, Lib.hid HLP.out, _, by trivial⟩
              case measure => simp [intOf]; omega
          · have d4 : (kid == 1) = false := by simpa using hk1
            have hil : isLoop l ((pu : Int), kid) = false := by unfold isLoop; simp [hk1]
            rw [hil, if_neg (by simp), hlp.out] at hfg
            have HLP := Lib.hid hfg.symm
            clear hil hfg hk1
            go_wp2_with fail
            go_roundw
            case rel => exact ⟨(pu : Int), g, n, by omega, by omega, by omega, by omega, by omega, rfl, rfl, Lib.hid HLP.out, dn, by trivial⟩
            case measure => simp [intOf]; omega
        · have d3 : decide (0 ≤ up) = false := by simpa using hu0
          have hil : isLoop l (up, kid) = false := by unfold isLoop; simp [hu0]
          rw [hil, if_neg (by simp), hlp.out] at hfg
          have HLP := Lib.hid hfg.symm
          clear hil hfg hu0
          go_wp2_with fail
          go_roundw
          case rel => exact ⟨up, g, n, by omega, by omega, by omega, by omega, by omega, rfl, rfl, Lib.hid HLP.out, dn, by trivial⟩
          case measure => simp [intOf]; omega
end Go.Proofs.YtdkoafmgenbkbaaDoor
