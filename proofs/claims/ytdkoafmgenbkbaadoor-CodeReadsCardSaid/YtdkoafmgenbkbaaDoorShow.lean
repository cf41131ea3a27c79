/- Numbers' texts: what the program's Show and the reference's answer; the library's table holds what it began with. -/
import Derived.Test.YtdkoafmgenbkbaaDoorMUnq
import Derived.Test.YtdkoafmgenbkbaaDoorShelf
namespace Go.Proofs.YtdkoafmgenbkbaaDoor
set_option linter.unusedSimpArgs false
set_option linter.unusedVariables false
open Go.RowKit

theorem var_keep {P : Program} {w w' : World} {n : String} {cs : Array Value} (h : w.var? P n = some cs) (hb : Below w.heap.size w w') : w'.var? P n = some cs := by
  unfold World.var? at h ⊢
  cases hg : P.globalNamed n with
  | none => rw [hg] at h; simp at h
  | some g =>
    rw [hg] at h
    simp only [Option.bind_some] at h ⊢
    have hlt : g < w.heap.size := by
      rcases Nat.lt_or_ge g w.heap.size with hlt | hge
      · exact hlt
      · rw [Array.getElem?_eq_none hge] at h; cases h
    rw [hb.block g hlt]
    exact h
theorem below_grow (w : World) (k : Nat) (os : Array Obj) : Below w.heap.size w (Sort.grow (w.drewN k) os) :=
  ⟨rfl, rfl, rfl, by show w.heap.size ≤ (w.heap ++ os).size; simp, fun g hg => by
    show (w.heap ++ os)[g]? = w.heap[g]?
    rw [Array.getElem?_append_left hg]⟩
/-- the library's table -/
def Pow (w : World) : Prop := Lib.TabIs Tryd.prog w "internal/strconv.uint64pow10" .u64 Lib.pow10Tab
theorem Pow.below {w w' : World} (h : Pow w) (hb : Below w.heap.size w w') : Pow w' := var_keep h hb

theorem show_any (n : Int) (h0 : -9223372036854775808 ≤ n) (h1 : n ≤ 9223372036854775807) (w : World) (hv : Pow w) : Calls Tryd.prog 44 #[.int .i64 n] w fun e w' => e = .returned (.string (txt (showN n))) ∧ Below w.heap.size w w' := by
  have F := Lib.hid (Tryd.strconv_FormatInt_10 n h0 h1 w hv)
  rw [show_txt] at F
  clear hv
  go_enter Tryd.func44, Tryd.ntmps44
  go_wp2_with (go_at_call 70; refine F.out.mono ?_; rintro e w1 ⟨rfl, k, os, rfl⟩)
  go_ret
  exact ⟨rfl, below_grow _ _ _⟩

set_option maxHeartbeats 1000000 in
theorem ref_show (n : Int) (h0 : -9223372036854775808 ≤ n) (h1 : n ≤ 9223372036854775807) (w : World) : Calls Tryd.prog 46 #[.int .i64 n] w fun e w' => e = .returned (.string (txt (showN n))) ∧ Below w.heap.size w w' := by
  by_cases hz : n = 0
  · subst hz
    have hv : showN 0 = [48] := by unfold showN; rw [if_neg (by omega)]; exact dec_small (by omega)
    have HV := Lib.hid hv
    clear hv
    go_enter Tryd.func46, Tryd.ntmps46
    go_wp2_with fail
    go_ret
    exact ⟨by rw [HV.out]; rfl, Below.refl _ _⟩
  by_cases hneg : n < 0
  · have _z := hz
    obtain ⟨u, rfl⟩ : ∃ u : Nat, n = -(u : Int) := ⟨n.natAbs, by omega⟩
    have hu : u ≠ 0 := by omega
    have hu1 : u ≤ 9223372036854775808 := by omega
    have hul : (dec u).length ≤ 19 := dec_len u 19 (by omega) (by omega)
    have hvs : txt (showN (-(u : Int))) = ⟨#[45]⟩ ++ txt (dec u) := by
      unfold showN; rw [if_pos (by omega), show (-(u : Int)).natAbs = u by omega, show (⟨#[45]⟩ : ByteArray) = txt [45] from rfl, txt_app]; rfl
    have HV := Lib.hid hvs
    have HU := Lib.hid (And.intro hu (And.intro hu1 hul))
    clear hvs hul
    go_enter Tryd.func46, Tryd.ntmps46
    go_wp2_with fail
    go_loopw [3, 5] (fun m o wr => ∃ (a : Nat) (t : List Nat), m = .int .u64 a ∧ o = .string (txt t) ∧ a ≤ 9223372036854775808 ∧ t.length ≤ 19 ∧ Hid (Bytes t ∧ (a = 0 → t = dec u) ∧ (a ≠ 0 → dec a ++ t = dec u)) ∧ Quiet w wr) (fun m _ _ => (intOf m).toNat)
    case atStart => exact ⟨u, [], by go_num, rfl, hu1, by simp, ⟨bytes_nil, fun h => absurd h hu, fun _ => by simp⟩, Quiet.refl _⟩
    case round =>
      obtain ⟨a, t, rfl, rfl, ha, ht, hinv, hq⟩ := hrel
      have hts : (txt t).size = t.length := txt_size t
      clear hu hu1
      by_cases hpos : 0 < a
      · have sl := fig_slice (a % 10) (by omega)
        have ek : ((a : Int) % 10).toNat = a % 10 := by omega
        have ek1 : ((a : Int) % 10 + 1).toNat = a % 10 + 1 := by omega
        have hr1 : (txt [48 + a % 10]).size = 1 := txt_size _
        have hnew : ((48 + a % 10) :: t).length ≤ 19 ∧ Bytes ((48 + a % 10) :: t) ∧ (a / 10 = 0 → (48 + a % 10) :: t = dec u) ∧ (a / 10 ≠ 0 → dec (a / 10) ++ ((48 + a % 10) :: t) = dec u) := by
          obtain ⟨q1, _, q3⟩ := hinv.out
          have q3 := q3 (by omega)
          have hby : Bytes ((48 + a % 10) :: t) := fun c hc => by
            rcases List.mem_cons.1 hc with rfl | hc
            · omega
            · exact q1 c hc
          by_cases hs : a < 10
          · rw [dec_small hs] at q3
            have e : a % 10 = a := by omega
            rw [e]
            refine ⟨by have := congrArg List.length q3; have := HU.out.2.2; simp at *; omega, by rw [← e]; exact hby, fun _ => by rw [← q3]; rfl, fun h => absurd (show a / 10 = 0 by omega) h⟩
          · rw [dec_big hs] at q3
            rw [List.append_assoc] at q3
            refine ⟨by have := congrArg List.length q3; have := HU.out.2.2; simp at *; omega, hby, fun h => absurd h (by omega), fun _ => q3⟩
        have HN := Lib.hid hnew
        clear hnew
        go_wp2_with fail
        go_roundw
        case rel => exact ⟨a / 10, (48 + a % 10) :: t, by go_num, by rw [txt_app]; rfl, by omega, HN.out.1, HN.out.2, hq⟩
        case measure => simp [intOf]; omega
      · have ha0 : a = 0 := by omega
        subst ha0
        have hfin := hinv.out.2.1 rfl
        have HF := Lib.hid hfin
        clear hfin hpos
        go_wp2_with fail
        go_ret
        exact ⟨by rw [HV.out, ← HF.out]; rfl, hq.below _⟩
  · have _z := hz
    obtain ⟨u, rfl⟩ : ∃ u : Nat, n = (u : Int) := ⟨n.natAbs, by omega⟩
    have hu : u ≠ 0 := by omega
    have hu1 : u ≤ 9223372036854775808 := by omega
    have hul : (dec u).length ≤ 19 := dec_len u 19 (by omega) (by omega)
    have hvs : txt (showN ((u : Int))) = txt (dec u) := by
      unfold showN; rw [if_neg (by omega), Int.toNat_natCast]
    have HV := Lib.hid hvs
    have HU := Lib.hid (And.intro hu (And.intro hu1 hul))
    clear hvs hul
    go_enter Tryd.func46, Tryd.ntmps46
    go_wp2_with fail
    go_loopw [3, 5] (fun m o wr => ∃ (a : Nat) (t : List Nat), m = .int .u64 a ∧ o = .string (txt t) ∧ a ≤ 9223372036854775808 ∧ t.length ≤ 19 ∧ Hid (Bytes t ∧ (a = 0 → t = dec u) ∧ (a ≠ 0 → dec a ++ t = dec u)) ∧ Quiet w wr) (fun m _ _ => (intOf m).toNat)
    case atStart => exact ⟨u, [], by go_num, rfl, hu1, by simp, ⟨bytes_nil, fun h => absurd h hu, fun _ => by simp⟩, Quiet.refl _⟩
    case round =>
      obtain ⟨a, t, rfl, rfl, ha, ht, hinv, hq⟩ := hrel
      have hts : (txt t).size = t.length := txt_size t
      clear hu hu1
      by_cases hpos : 0 < a
      · have sl := fig_slice (a % 10) (by omega)
        have ek : ((a : Int) % 10).toNat = a % 10 := by omega
        have ek1 : ((a : Int) % 10 + 1).toNat = a % 10 + 1 := by omega
        have hr1 : (txt [48 + a % 10]).size = 1 := txt_size _
        have hnew : ((48 + a % 10) :: t).length ≤ 19 ∧ Bytes ((48 + a % 10) :: t) ∧ (a / 10 = 0 → (48 + a % 10) :: t = dec u) ∧ (a / 10 ≠ 0 → dec (a / 10) ++ ((48 + a % 10) :: t) = dec u) := by
          obtain ⟨q1, _, q3⟩ := hinv.out
          have q3 := q3 (by omega)
          have hby : Bytes ((48 + a % 10) :: t) := fun c hc => by
            rcases List.mem_cons.1 hc with rfl | hc
            · omega
            · exact q1 c hc
          by_cases hs : a < 10
          · rw [dec_small hs] at q3
            have e : a % 10 = a := by omega
            rw [e]
            refine ⟨by have := congrArg List.length q3; have := HU.out.2.2; simp at *; omega, by rw [← e]; exact hby, fun _ => by rw [← q3]; rfl, fun h => absurd (show a / 10 = 0 by omega) h⟩
          · rw [dec_big hs] at q3
            rw [List.append_assoc] at q3
            refine ⟨by have := congrArg List.length q3; have := HU.out.2.2; simp at *; omega, hby, fun h => absurd h (by omega), fun _ => q3⟩
        have HN := Lib.hid hnew
        clear hnew
        go_wp2_with fail
        go_roundw
        case rel => exact ⟨a / 10, (48 + a % 10) :: t, by go_num, by rw [txt_app]; rfl, by omega, HN.out.1, HN.out.2, hq⟩
        case measure => simp [intOf]; omega
      · have ha0 : a = 0 := by omega
        subst ha0
        have hfin := hinv.out.2.1 rfl
        have HF := Lib.hid hfin
        clear hfin hpos
        go_wp2_with fail
        go_ret
        exact ⟨by rw [HV.out, ← HF.out]; exact congrArg (fun x => Ending.returned (Value.string x)) (empty_app _), hq.below _⟩
end Go.Proofs.YtdkoafmgenbkbaaDoor
