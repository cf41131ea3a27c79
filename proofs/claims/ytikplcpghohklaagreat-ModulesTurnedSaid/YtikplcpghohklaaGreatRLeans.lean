/- The reference's Leans: on which languages each leans. -/
import Derived.Test.YtikplcpghohklaaGreatLeans0
import Derived.StillTailTactics
import Derived.WalkMore
import Derived.Deep.RegionHeld3
namespace Go.Proofs.YtikplcpghohklaaGreat
set_option linter.unusedSimpArgs false
set_option linter.unusedVariables false
open Go.RowKit

theorem info_row : (Tryz.prog.info? 148).map (fun i => (i.zero, i.size, i.bytes)) = some (some (.slice none 0 0), 1, 24) := by kernel_rfl
theorem mixed : (Tryz.prog).follows .mixedOrders = true := by kernel_rfl
theorem info_bool : (Tryz.prog.info? 4).map (fun i => (i.zero, i.size, i.bytes)) = some (some (.bool false), 1, 1) := by kernel_rfl

theorem wpStill_skip {P : Program} {ops : Array Oper} {w : World} {Q : Act → Prop} {a : Act} {o : Oper} {rest : List Oper} (hn : Region.wanted o (yielded ops a.tmps) = false) (h : wpStill P ops w Q rest (a.put o.dst undef)) : wpStill P ops w Q (o :: rest) a := by
  unfold wpStill
  rw [if_neg (by rw [hn]; simp)]
  exact h
/-- what the square says, i rows of it and k of the next one's uses being laid -/
def Laid (us : Web) (i : Nat) (Z : Nat → Nat → Bool) : Prop := ∀ a b, a < i → (Z a b = true ↔ Edge us a b)

attribute [local irreducible] Go.wpStill
set_option maxRecDepth 100000 in
set_option maxHeartbeats 8000000 in
theorem r_leans {ls : List Language} {v : Value} (w w0 : World) (hs : LsR w0 w0.heap.size v ls) (hw : Below w0.heap.size w0 w) (hlen : ls.length ≤ 128) (hfound : AllFound ls) :
    Calls Tryz.prog 74 #[v] w fun e w' => e = .returned (.slice (some ⟨w.heap.size, 0, none⟩) ls.length ls.length) ∧ ∃ Z, MatS w w' ls.length ls.length Z ∧ Mat (webN ls) ls.length Z := by
  obtain ⟨a, c, rfl⟩ : ∃ a c, v = .slice a ls.length c := by obtain ⟨a, c, h, _⟩ := hs.form; exact ⟨a, c, h⟩
  obtain ⟨us, hus⟩ : ∃ us, webN ls = us := ⟨_, rfl⟩
  have Hat := Lib.hid (fun (i : Nat) (l : Language) (h : ls[i]? = some l) => (hus ▸ webN_at h : us[i]? = some (l.uses.map fun s => (findN ls s).toNat)))
  have Hin := Lib.hid (hus ▸ webN_in ls hfound)
  have Hul := Lib.hid (hus ▸ webN_len ls)
  rw [hus]
  have Hfd := Lib.hid (fun (i : Nat) (l : Language) (k : Nat) (s : ByteArray) (h : ls[i]? = some l) (hk : l.uses[k]? = some s) => hfound l (List.mem_iff_getElem?.2 ⟨i, h⟩) s (List.mem_iff_getElem?.2 ⟨k, hk⟩))
  have Hlt := Lib.hid (fun s => findN_lt ls s)
  obtain ⟨n, hn⟩ : ∃ n, ls.length = n := ⟨_, rfl⟩
  rw [hn] at hs hlen Hlt Hin Hul ⊢
  have Hn := Lib.hid hn
  have Hs := Lib.hid hs
  have Hw := Lib.hid hw
  have HF := Lib.hid (fun s W (h : Below w0.heap.size w0 W) => r_find s W w0 hs h)
  clear hs hw hn hus hfound
  have hmk1 := run_make_row' (P := Tryz.prog) 146 148 (.slice none 0 0) 24 Tryz.underlying146 info_row rfl .i64 .i64 n (by omega) (by omega)
  go_enter Tryz.func74, Tryz.ntmps74
  go_wp2_with fail
  clear hmk1
  have hmk2 := run_make_row' (P := Tryz.prog) 148 4 (.bool false) 1 Tryz.underlying148 info_bool rfl .i64 .i64 n (by omega) (by omega)
  go_loopw [5, 6, 7] (fun j _ _ wr => ∃ (i : Nat) (Z : Nat → Nat → Bool), i ≤ n ∧ j = .int .i64 (i : Int) ∧ Hid (MatS w wr n i Z) ∧ Hid (Laid us i Z)) (fun j _ _ _ => n - (intOf j).toNat)
  case atStart => exact ⟨0, _, Nat.zero_le _, rfl, Lib.hid (MatS.start w n), fun a b h => absurd h (Nat.not_lt_zero _)⟩
  case round =>
    obtain ⟨i, Z, hi, rfl, hM, hL⟩ := hrel
    by_cases hlt : i < n
    · obtain ⟨l, hd⟩ := get_some Hn.out hlt
      have hw0 := Hw.out
      obtain ⟨b, off, x, rfl, hbB, hxl, ⟨v1, v2, v3, v4, v5, v6, rfl, su, _⟩, hx⟩ := Hs.out.at_ hd
      obtain ⟨m, hm⟩ : ∃ m, l.uses.length = m := ⟨_, rfl⟩
      obtain ⟨ua, uc, rfl⟩ : ∃ a c, v1 = .slice a m c := by obtain ⟨a, c, h, _⟩ := su.form; exact ⟨a, c, by rw [h, hm]⟩
      have X2 := Lib.hid (hx 2 _ rfl)
      have Hm := Lib.hid hm
      have Su := Lib.hid su
      have hmc := su.caps
      have hm63 : m ≤ 9223372036854775807 := by unfold maxLen at hmc; omega
      have hbw : b < w.heap.size := by have := hw0.size; omega
      have Hd := Lib.hid hd
      have Hu := Lib.hid (Hat.out i l hd)
      have hst1 : ∀ o, (wr.alloc o).cell? ⟨w.heap.size, i, none⟩ = some (topN w.heap.size n i i) := fun o => (hM.out.top.alloc o).cell hlt
      have hst2 : ∀ o, (wr.alloc o).frozen? ⟨w.heap.size, i, none⟩ = false := fun o => (hM.out.top.alloc o).frozen i
      clear hx hxl hd hm su hmc
      go_wp2_with fail
      have hM2 := Lib.hid hM.out.push
      have Hno : Hid (∀ b, Z i b = true ↔ b ∈ (l.uses.map fun s => (findN ls s).toNat).take 0) := by
        intro b
        rw [List.take_zero]
        exact ⟨fun h => absurd (hM.out.dom i b h).1 (Nat.lt_irrefl _), fun h => by cases h⟩
      have Hbef := hL
      clear hst1 hst2 hM hL
      obtain ⟨wo, hwo⟩ : ∃ wo, wo = wr := ⟨wr, rfl⟩
      subst hwo
      go_hide hQ2
      go_loopw [6, 7] (fun j _ wr => ∃ (k : Nat) (Z : Nat → Nat → Bool), k ≤ m ∧ j = .int .i64 (k : Int) ∧ Hid (MatS w wr n (i + 1) Z) ∧ Hid (Laid us i Z) ∧ Hid (∀ b, Z i b = true ↔ b ∈ (l.uses.map fun s => (findN ls s).toNat).take k)) (fun j _ _ => m - (intOf j).toNat)
      case atStart => exact ⟨0, Z, Nat.zero_le _, rfl, hM2, Hbef, Hno⟩
      case round =>
        obtain ⟨k, Z, hk, rfl, hM, hL, hC⟩ := hrel
        have hWr := Hw.out.trans (hM.out.low.mono Hw.out.size)
        have x2 : wr.cell? ⟨b, off + i * 8 + 2, none⟩ = some (.slice ua m uc) := (hWr.cell (p := ⟨b, off + i * 8 + 2, none⟩) hbB).trans X2.out
        by_cases hkm : k < m
        · obtain ⟨s, hsk⟩ := get_some Hm.out hkm
          obtain ⟨b2, off2, y, rfl, hb2, hyl, ⟨rfl, _⟩, hy⟩ := Su.out.at_ hsk
          have y0 : wr.cell? ⟨b2, off2 + k, none⟩ = some (.string s) := (hWr.cell (p := ⟨b2, off2 + k, none⟩) hb2).trans (by have := hy 0 _ rfl; simpa using this)
          obtain ⟨f, hf⟩ : ∃ f : Nat, findN ls s = (f : Int) := ⟨(findN ls s).toNat, by have := Hfd.out i l k s Hd.out hsk; omega⟩
          have hfn : f < n := by have := Hlt.out s; omega
          have HFs := Lib.hid (HF.out s wr hWr)
          rw [hf] at HFs
          have hZ : Hid (∀ b, updZ Z i f true i b = true ↔ b ∈ (l.uses.map fun s => (findN ls s).toNat).take (k + 1)) := by
            intro b
            have e : (l.uses.map fun s => (findN ls s).toNat).take (k + 1) = (l.uses.map fun s => (findN ls s).toNat).take k ++ [f] := by
              rw [List.take_add_one]
              simp [hsk, hf]
            rw [e, List.mem_append, ← hC.out b]
            unfold updZ
            by_cases hbf : b = f
            · simp [hbf]
            · simp [hbf]
          have hL2 : Hid (Laid us i (updZ Z i f true)) := by
            intro a b ha
            rw [← hL.out a b ha]
            unfold updZ
            rw [if_neg (by omega)]
          clear hy hyl hsk hf hWr
          go_wp2_with (go_at_call 73; with_reducible refine HFs.out.mono ?_; rintro e w1 ⟨rfl, qq⟩; have M1 := Lib.hid (hM.out.quiet qq); have c1 : w1.cell? ⟨w.heap.size, i, none⟩ = some (.slice (some ⟨w.heap.size + 1 + i, 0, none⟩) n n) := M1.out.topc (by omega) (by omega); have c2 : w1.cell? ⟨w.heap.size + 1 + i, f, none⟩ = some (.bool (Z i f)) := M1.out.cell (by omega) hfn; have c3 : w1.frozen? ⟨w.heap.size + 1 + i, f, none⟩ = false := (M1.out.done i (by omega)).frozen f)
          have hM3 := Lib.hid (M1.out.set (a := i) (b := f) (by omega) hfn true)
          go_roundw
          case rel => exact ⟨k + 1, updZ Z i f true, by omega, by go_num, hM3, hL2, hZ⟩
          case measure => simp [intOf]; omega
        · obtain rfl : m = k := by omega
          have hL2 : Hid (Laid us (i + 1) Z) := by
            intro a b ha
            by_cases e : a = i
            · subst e
              rw [hC.out b, edge_at Hu.out, List.take_of_length_le (by rw [List.length_map, Hm.out]; exact Nat.le_refl _)]
            · exact hL.out a b (by omega)
          clear hkm hWr
          subst hQ2
          go_wp2_with fail
          go_roundw
          case rel => exact ⟨i + 1, Z, by omega, by go_num, hM, hL2⟩
          case measure => simp [intOf]; omega
    · obtain rfl : n = i := by omega
      clear hlt hmk2
      have hM0 : Hid (Mat us 0 Z) := by
        refine Mat.start fun a b => ?_
        by_cases ha : a < n
        · exact hL.out a b ha
        · constructor
          · intro h; exact absurd (hM.out.dom a b h).1 ha
          · rintro ⟨l, h, _⟩
            have := (List.getElem?_eq_some_iff.1 h).1
            have := Hul.out
            omega
      go_wp2_with fail
      obtain ⟨wo, hwo⟩ : ∃ wo, wo = wr := ⟨wr, rfl⟩
      subst hwo
      go_loopw [8, 9, 10, 11] (fun j _ _ _ wr => ∃ (r : Nat) (Z : Nat → Nat → Bool), r ≤ n ∧ j = .int .i64 (r : Int) ∧ Hid (MatS w wr n n Z) ∧ Hid (Mat us r Z)) (fun j _ _ _ _ => n - (intOf j).toNat)
      case atStart => exact ⟨0, Z, Nat.zero_le _, rfl, hM, hM0⟩
      case round =>
        obtain ⟨r, Z, hr, rfl, hM, hMt⟩ := hrel
        by_cases hlt : r < n
        · obtain ⟨Z0, hZ0⟩ : ∃ Z0, Z0 = Z := ⟨Z, rfl⟩
          have Hd1 : Hid (∀ a b, Z0 a b = true → b < n) := fun a b h => (hM.out.dom a b (by rw [← hZ0]; exact h)).2
          have Hd0 : Hid (∀ a b, Z0 a b = true → a < n) := fun a b h => (hM.out.dom a b (by rw [← hZ0]; exact h)).1
          have HR0 : Hid (Rd us Z0 Z 0 0 0) := Lib.hid (by rw [hZ0]; exact Rd.start hMt.out.sound)
          have HMt : Hid (Mat us r Z0) := Lib.hid (by rw [hZ0]; exact hMt.out)
          have HM := hM
          clear hZ0 hM hMt
          go_wp2_with fail
          obtain ⟨wp, hwp⟩ : ∃ wp, wp = wr := ⟨wr, rfl⟩
          subst hwp
          go_hide hQ4
          go_loopw [9, 10, 11] (fun j _ _ wr => ∃ (i : Nat) (Z : Nat → Nat → Bool), i ≤ n ∧ j = .int .i64 (i : Int) ∧ Hid (MatS w wr n n Z) ∧ Hid (Rd us Z0 Z i 0 0)) (fun j _ _ _ => n - (intOf j).toNat)
          case atStart => exact ⟨0, Z, Nat.zero_le _, rfl, HM, HR0⟩
          case round =>
            obtain ⟨i, Z, hi, rfl, hM, hR⟩ := hrel
            by_cases hlti : i < n
            · have HM := hM
              have HR := hR
              clear hM hR
              go_wp2_with fail
              obtain ⟨wq, hwq⟩ : ∃ wq, wq = wr := ⟨wr, rfl⟩
              subst hwq
              go_hide hQ5
              go_loopw [10, 11] (fun j _ wr => ∃ (k : Nat) (Z : Nat → Nat → Bool), k ≤ n ∧ j = .int .i64 (k : Int) ∧ Hid (MatS w wr n n Z) ∧ Hid (Rd us Z0 Z i k 0)) (fun j _ _ => n - (intOf j).toNat)
              case atStart => exact ⟨0, Z, Nat.zero_le _, rfl, HM, HR⟩
              case round =>
                obtain ⟨k, Z, hk, rfl, hM, hR⟩ := hrel
                by_cases hltk : k < n
                · have HM := hM
                  have HR := hR
                  clear hM hR
                  go_wp2_with fail
                  obtain ⟨wt, hwt⟩ : ∃ wt, wt = wr := ⟨wr, rfl⟩
                  subst hwt
                  go_hide hQ6
                  go_loopw [11] (fun j wr => ∃ (m : Nat) (Z : Nat → Nat → Bool), m ≤ n ∧ j = .int .i64 (m : Int) ∧ Hid (MatS w wr n n Z) ∧ Hid (Rd us Z0 Z i k m)) (fun j _ => n - (intOf j).toNat)
                  case atStart => exact ⟨0, Z, Nat.zero_le _, rfl, HM, HR⟩
                  case round =>
                    obtain ⟨m, Z, hm, rfl, hM, hR⟩ := hrel
                    have t1 : wr.cell? ⟨w.heap.size, i, none⟩ = some (.slice (some ⟨w.heap.size + 1 + i, 0, none⟩) n n) := hM.out.topc hlti (Nat.le_refl _)
                    have t2 : wr.cell? ⟨w.heap.size, k, none⟩ = some (.slice (some ⟨w.heap.size + 1 + k, 0, none⟩) n n) := hM.out.topc hltk (Nat.le_refl _)
                    by_cases hltm : m < n
                    · have t3 : wr.cell? ⟨w.heap.size + 1 + i, k, none⟩ = some (.bool (Z i k)) := hM.out.cell hlti hltk
                      rcases hik : Z i k with _ | _
                      · rw [hik] at t3
                        have HR2 := Lib.hid (hR.out.stepK Hd1.out (.inr hik))
                        have HM := hM
                        clear hM hR hik
                        subst hQ6
                        go_wp2_with fail
                        go_roundw
                        case rel => exact ⟨k + 1, Z, by omega, by go_num, HM, HR2⟩
                        case measure => simp [intOf]; omega
                      · rw [hik] at t3
                        have t4 : wr.cell? ⟨w.heap.size + 1 + i, m, none⟩ = some (.bool (Z i m)) := hM.out.cell hlti hltm
                        have t5 : wr.cell? ⟨w.heap.size + 1 + k, m, none⟩ = some (.bool (Z k m)) := hM.out.cell hltk hltm
                        have t6 : wr.frozen? ⟨w.heap.size + 1 + i, m, none⟩ = false := (hM.out.done i hlti).frozen m
                        have HR2 := Lib.hid (hR.out.stepM hik)
                        have HM2 := Lib.hid (hM.out.set (a := i) (b := m) hlti hltm (Z i m || Z k m))
                        clear hM hR hik
                        rcases him : Z i m with _ | _
                        · rw [him] at t4 HR2 HM2
                          rw [Bool.false_or] at HR2 HM2
                          have HM3 := Lib.hid HM2.out.drew
                          clear him HM2
                          go_wp2_with fail
                          go_still_tail 22, mixed
                          change wpList _ _ _ _ _ wr.drew
                          go_wp2_with fail
                          exact ⟨⟨m + 1, updZ Z i m (Z k m), by omega, by go_num, HM3, HR2⟩, by simp [intOf]; omega⟩
                        · rw [him] at t4 HR2 HM2
                          rw [Bool.true_or] at HR2 HM2
                          have HM3 := Lib.hid HM2.out.drew
                          clear him HM2
                          go_wp2_with fail
                          refine wp_region_still_tail 22 mixed (by kernel_rfl) ?_
                          simp only [List.take_succ_cons, List.take_zero, List.drop_succ_cons, List.drop_zero]
                          iterate 13 still_step
                          iterate 7 (refine wpStill_step (fun K hK => ?_); rw [if_neg (by simp [Region.wanted, yielded])]; go_simp; refine hK _ ?_; clear hK K)
                          iterate 2 still_step
                          refine wpStill_nil ?_
                          change wpList _ _ _ _ _ wr.drew
                          go_wp2_with fail
                          exact ⟨⟨m + 1, updZ Z i m true, by omega, by go_num, HM3, HR2⟩, by simp [intOf]; omega⟩
                    · have HR2 := Lib.hid (hR.out.stepK (n := n) Hd1.out (.inl (by omega)))
                      have HM := hM
                      clear hM hR
                      subst hQ6
                      go_wp2_with fail
                      go_roundw
                      case rel => exact ⟨k + 1, Z, by omega, by go_num, HM, HR2⟩
                      case measure => simp [intOf]; omega
                · have HR2 := Lib.hid (hR.out.stepI (n := n) Hd1.out (by omega))
                  have HM := hM
                  clear hM hR
                  subst hQ5
                  go_wp2_with fail
                  go_roundw
                  case rel => exact ⟨i + 1, Z, by omega, by go_num, HM, HR2⟩
                  case measure => simp [intOf]; omega
            · have HM3 := Lib.hid (hR.out.done (n := n) Hd0.out (by omega) HMt.out)
              have HM := hM
              clear hM hR
              subst hQ4
              go_wp2_with fail
              go_roundw
              case rel => exact ⟨r + 1, Z, by omega, by go_num, HM, HM3⟩
              case measure => simp [intOf]; omega
        · obtain rfl : n = r := by omega
          clear hlt
          have HM := hM
          have HMt := hMt
          clear hM hMt
          go_wp2_with fail
          go_ret
          exact ⟨rfl, Z, HM.out, HMt.out⟩
end Go.Proofs.YtikplcpghohklaaGreat
