/- Numbers and their texts: what the program's and the reference's functions answer; the library's variables hold what they began with. -/
import Derived.Test.YtffhogadgjnkkaaDoorNum
import Derived.Test.YtffhogadgjnkkaaDoorShelf
import Derived.WalkSpells
import Derived.Deep.QuietTactic
import Derived.BigQuiet
import Derived.Outline
namespace Go.Proofs.YtffhogadgjnkkaaDoor
open Go.RowKit

theorem var_keep {P : Program} {w w' : World} {n : String} {cs : Array Value} (h : w.var? P n = some cs) (hb : Below w.heap.size w w') : w'.var? P n = some cs := by
  unfold World.var? at h ⊢
  cases hg : P.globalNamed n with
  | none => rw [hg] at h; simp at h
  | some g =>
    rw [hg] at h
    simp only [Option.bind_some] at h ⊢
    have hlt : g < w.heap.size := by
      rcases Nat.lt_or_ge g w.heap.size with hlt | hge
      · exact hlt
      · rw [Array.getElem?_eq_none hge] at h; cases h
    rw [hb.block g hlt]
    exact h
theorem below_grow (w : World) (k : Nat) (os : Array Obj) : Below w.heap.size w (Sort.grow (w.drewN k) os) :=
  ⟨rfl, rfl, rfl, by show w.heap.size ≤ (w.heap ++ os).size; simp, fun g hg => by
    show (w.heap ++ os)[g]? = w.heap[g]?
    rw [Array.getElem?_append_left hg]⟩
/-- the library's variables -/
def Vars (w : World) : Prop := Lib.TabIs Tryd.prog w "internal/strconv.uint64pow10" .u64 Lib.pow10Tab ∧ (∃ tp p, w.var? Tryd.prog "strconv.ErrSyntax" = some #[.iface tp p]) ∧ (∃ tp p, w.var? Tryd.prog "strconv.ErrRange" = some #[.iface tp p])
theorem Vars.below {w w' : World} (h : Vars w) (hb : Below w.heap.size w w') : Vars w' := by
  obtain ⟨h1, ⟨t2, p2, h2⟩, t3, p3, h3⟩ := h
  exact ⟨var_keep h1 hb, ⟨t2, p2, var_keep h2 hb⟩, t3, p3, var_keep h3 hb⟩

theorem show_any (n : Int) (h0 : -9223372036854775808 ≤ n) (h1 : n ≤ 9223372036854775807) (w : World) (hv : Vars w) : Calls Tryd.prog 10 #[.int .i64 n] w fun e w' => e = .returned (.string (txt (showN n))) ∧ Below w.heap.size w w' := by
  have F := Lib.hid (Tryd.strconv_FormatInt_10 n h0 h1 w hv.1)
  rw [show_txt] at F
  clear hv
  go_enter Tryd.func10, Tryd.ntmps10
  go_wp2_with (go_at_call 23; refine F.out.mono ?_; rintro e w1 ⟨rfl, k, os, rfl⟩)
  go_ret
  exact ⟨rfl, below_grow _ _ _⟩

/-- what an int's text comes to -/
def intV (r : Option Int) : Value := match r with
  | some v => .tuple #[.int .i64 v, .int .i64 0]
  | none => .tuple #[.int .i64 0, .int .i64 2]

set_option maxRecDepth 100000 in
theorem int_any (s : ByteArray) (hs : s.size ≤ 281474976710656) (w : World) (hv : Vars w) : Calls Tryd.prog 8 #[.string s] w fun e w' => e = .returned (intV (intN (bs s))) ∧ Below w.heap.size w w' := by
  by_cases hlen : 20 < s.size
  · have hn : intN (bs s) = none := by
      cases h : intN (bs s) with
      | none => rfl
      | some v => have := (intN_some h).2.2.2; rw [bs_len] at this; omega
    have HN := Lib.hid hn
    clear hn
    go_enter Tryd.func8, Tryd.ntmps8
    go_wp2_with fail
    go_ret2
    exact ⟨by rw [HN.out]; rfl, Below.refl _ _⟩
  have hv1 := hv
  obtain ⟨_, ⟨t2, p2, h2⟩, t3, p3, h3⟩ := hv1
  rcases h : Lib.parseIntB 64 s.data.toList with v | _ | _
  rotate_left
  · have hn : intN (bs s) = none := by
      cases h' : intN (bs s) with
      | none => rfl
      | some v => have := (parse_of_int s v h').1; rw [h] at this; cases this
    have HN := Lib.hid hn
    have F := Lib.hid (Tryd.strconv_ParseInt_10_at64_none_var s hs (fun v e => by rw [h] at e; cases e) (fun e => by rw [h] at e; cases e) t2 p2 w h2)
    clear hn hv h2 h3 h
    go_enter Tryd.func8, Tryd.ntmps8
    go_wp2_with (go_at_call 21; refine F.out.mono ?_; rintro e w1 ⟨N, rfl, _, _, hb⟩)
    go_ret2
    exact ⟨by rw [HN.out]; rfl, hb⟩
  · have hn : intN (bs s) = none := by
      cases h' : intN (bs s) with
      | none => rfl
      | some v => have := (parse_of_int s v h').1; rw [h] at this; cases this
    have HN := Lib.hid hn
    have F := Lib.hid (Tryd.strconv_ParseInt_10_at64_range_var s hs h t3 p3 w h3)
    clear hn hv h2 h3 h
    go_enter Tryd.func8, Tryd.ntmps8
    go_wp2_with (go_at_call 21; refine F.out.mono ?_; rintro e w1 ⟨N, rfl, _, _, hb⟩)
    go_ret2
    exact ⟨by rw [HN.out]; rfl, hb⟩
  · have hbd := Lib.parseIntB_bounds (B := 64) h
    have hb0 : -9223372036854775808 ≤ v := by have := hbd.1; omega
    have hb1 : v ≤ 9223372036854775807 := by have := hbd.2; omega
    have F := Lib.hid (Tryd.strconv_ParseInt_10_at64_ok s (by omega) v h w)
    have G : Hid (∀ W, Below w.heap.size w W → Calls Tryd.prog 10 #[.int .i64 v] W fun e w' => e = .returned (.string (txt (showN v))) ∧ Below W.heap.size W w') := Lib.hid (fun W hW => show_any v hb0 hb1 W (hv.below hW))
    by_cases hx : txt (showN v) = s
    · have hn : intN (bs s) = some v := int_of_parse s v h hb0 hb1 (by rw [show_txt]; exact hx)
      have HN := Lib.hid hn
      rw [hx] at G
      clear hn hv h2 h3 h hx hbd hb0 hb1
      go_enter Tryd.func8, Tryd.ntmps8
      go_wp2_with (first
        | (go_at_call 21; refine F.out.mono ?_; rintro e w1 ⟨rfl, hw⟩
           have hb : Hid (Below w.heap.size w w1) := by
             rcases hw with rfl | ⟨t, rfl⟩
             · exact Below.refl _ _
             · exact Lib.bytesWorld_below _ _ _
           clear hw)
        | (go_at_call 10; refine (G.out _ hb.out).mono ?_; rintro e w2 ⟨rfl, hb2⟩))
      go_ret2
      exact ⟨by rw [HN.out]; rfl, hb.out.trans (hb2.mono hb.out.size)⟩
    · have hn : intN (bs s) = none := by
        cases h' : intN (bs s) with
        | none => rfl
        | some u =>
          obtain ⟨g1, g2, _⟩ := parse_of_int s u h'
          rw [h] at g1
          injection g1 with g1
          subst g1
          rw [show_txt] at g2
          exact absurd g2 hx
      have HN := Lib.hid hn
      generalize txt (showN v) = x at G hx
      have hx1 : (x.toList == s.toList) = false := by
        rw [beq_eq_false_iff_ne]
        exact fun e => hx ((toList_inj x s).1 e)
      clear hn hv h2 h3 h hbd hb0 hb1
      go_enter Tryd.func8, Tryd.ntmps8
      go_wp2_with (first
        | (go_at_call 21; refine F.out.mono ?_; rintro e w1 ⟨rfl, hw⟩
           have hb : Hid (Below w.heap.size w w1) := by
             rcases hw with rfl | ⟨t, rfl⟩
             · exact Below.refl _ _
             · exact Lib.bytesWorld_below _ _ _
           clear hw)
        | (go_at_call 10; refine (G.out _ hb.out).mono ?_; rintro e w2 ⟨rfl, hb2⟩))
      go_ret2
      exact ⟨by rw [HN.out]; rfl, hb.out.trans (hb2.mono hb.out.size)⟩

theorem get_bs {s : ByteArray} {k : Nat} (h : k < s.size) : ∃ c, (bs s)[k]? = some c ∧ c < 256 := ⟨_, bs_at h, UInt8.toNat_lt _⟩
theorem index_txt (W : World) (t : TypeId) (ht : Tryd.prog.underlying t = some .string) {s : ByteArray} {k c : Nat} (hc : (bs s)[k]? = some c) (ik : IntKind) (i : Int) (hi : i = (k : Int)) :
    (Instr.index t (.string s) (.int ik i)).run Tryd.prog W = .ok (.int .u8 (c : Int)) W := by
  have hk : k < s.size := by rw [← bs_len]; exact (List.getElem?_eq_some_iff.1 hc).1
  subst hi
  rw [run_index_string W t _ ik _ ht, dif_pos ⟨Int.natCast_nonneg _, by omega⟩]
  have e : ∀ hh, (s[(k : Int).toNat]'hh).toNat = c := by
    intro hh
    have h2 : k < s.size := hk
    have h3 := bs_at h2
    rw [h3] at hc
    exact Option.some.inj hc
  rw [e]

set_option maxHeartbeats 1000000 in
theorem among_any (c : Nat) (s : ByteArray) (hs : s.size ≤ maxLen) (w : World) : Calls Tryd.prog 22 #[.int .u8 (c : Int), .string s] w fun e w' => e = .returned (.bool (decide (c ∈ bs s))) ∧ Quiet w w' := by
  unfold maxLen at hs
  obtain ⟨n, hn⟩ : ∃ n, s.size = n := ⟨_, rfl⟩
  have Hn := Lib.hid hn
  rw [hn] at hs
  have hn' : (s.size : Int) = (n : Int) := by rw [hn]
  clear hn
  go_enter Tryd.func22, Tryd.ntmps22
  go_wp2_with fail
  go_loopw [5] (fun j wr => ∃ k : Nat, k ≤ n ∧ j = .int .i64 k ∧ Hid (¬ c ∈ (bs s).take k) ∧ Quiet w wr) (fun j _ => n - (intOf j).toNat)
  case atStart => exact ⟨0, by omega, rfl, by simp [Hid], Quiet.refl _⟩
  case round =>
    obtain ⟨k, hk, rfl, hin, hq⟩ := hrel
    by_cases hlt : k < n
    · obtain ⟨d, hd, d256⟩ := get_bs (s := s) (k := k) (by rw [Hn.out]; exact hlt)
      have i1 := fun W => index_txt W 9 Tryd.underlying9 hd .i64 _ rfl
      have hkl := (List.getElem?_eq_some_iff.1 hd).1
      by_cases hcd : d = c
      · subst hcd
        have hv : decide (d ∈ bs s) = true := by simp; exact List.mem_iff_getElem?.2 ⟨k, hd⟩
        have Hv := Lib.hid hv
        clear hv hd hkl
        go_wp2_with fail
        go_ret
        exact ⟨by rw [Hv.out]; rfl, hq⟩
      · have e1 : ((d : Int) == (c : Int)) = false := by simp; omega
        have hnot : ¬ c ∈ (bs s).take (k + 1) := by
          rw [List.take_succ_eq_append_getElem hkl, (List.getElem?_eq_some_iff.1 hd).2]
          intro hx
          rcases List.mem_append.1 hx with hx | hx
          · exact hin.out hx
          · simp at hx; exact hcd hx.symm
        have Hnot := Lib.hid hnot
        clear hnot hd hkl
        go_wp2_with fail
        go_roundw
        case rel => exact ⟨k + 1, by omega, by go_num, Hnot.out, hq⟩
        case measure => simp [intOf]; omega
    · have hdec : decide (k < n) = false := by simp; omega
      have hv : decide (c ∈ bs s) = false := by
        have := hin.out
        rw [List.take_of_length_le (by rw [bs_len, Hn.out]; omega)] at this
        simpa using this
      have Hv := Lib.hid hv
      clear hv
      go_wp2_with fail
      go_ret
      exact ⟨by rw [Hv.out]; rfl, hq⟩

theorem figs : bs ⟨#[48, 49, 50, 51, 52, 53, 54, 55, 56, 57]⟩ = [48, 49, 50, 51, 52, 53, 54, 55, 56, 57] := rfl
theorem mem_figs (c : Nat) : decide (c ∈ bs ⟨#[48, 49, 50, 51, 52, 53, 54, 55, 56, 57]⟩) = decide (48 ≤ c ∧ c ≤ 57) := by
  rw [figs, decide_eq_decide]
  simp
  omega
theorem fig_slice (k : Nat) (h : k < 10) : (⟨#[48, 49, 50, 51, 52, 53, 54, 55, 56, 57]⟩ : ByteArray).extract k (k + 1) = txt [48 + k] := by
  apply bs_inj
  rw [bs_extract, figs, bs_txt (fun n hn => by simp at hn; omega)]
  have : ∀ k : Fin 10, (([48, 49, 50, 51, 52, 53, 54, 55, 56, 57] : List Nat).take (k.1 + 1)).drop k.1 = [48 + k.1] := by decide
  exact this ⟨k, h⟩
theorem txt_app (l m : List Nat) : txt l ++ txt m = txt (l ++ m) := by
  apply ByteArray.ext
  rw [ByteArray.data_append]
  simp [txt]

theorem empty_app (x : ByteArray) : (⟨#[]⟩ : ByteArray) ++ x = x := by
  apply ByteArray.ext
  rw [ByteArray.data_append]
  simp

set_option maxHeartbeats 1000000 in
theorem ref_show (n : Int) (h0 : -9223372036854775808 ≤ n) (h1 : n ≤ 9223372036854775807) (w : World) : Calls Tryd.prog 11 #[.int .i64 n] w fun e w' => e = .returned (.string (txt (showN n))) ∧ Below w.heap.size w w' := by
  by_cases hz : n = 0
  · subst hz
    have hv : showN 0 = [48] := by unfold showN; rw [if_neg (by omega)]; exact dec_small (by omega)
    have HV := Lib.hid hv
    clear hv
    go_enter Tryd.func11, Tryd.ntmps11
    go_wp2_with fail
    go_ret
    exact ⟨by rw [HV.out]; rfl, Below.refl _ _⟩
  by_cases hneg : n < 0
  · have _z := hz
    obtain ⟨u, rfl⟩ : ∃ u : Nat, n = -(u : Int) := ⟨n.natAbs, by omega⟩
    have hu : u ≠ 0 := by omega
    have hu1 : u ≤ 9223372036854775808 := by omega
    have hul : (dec u).length ≤ 19 := dec_len u 19 (by omega) (by omega)
    have hvs : txt (showN (-(u : Int))) = ⟨#[45]⟩ ++ txt (dec u) := by
      unfold showN; rw [if_pos (by omega), show (-(u : Int)).natAbs = u by omega, show (⟨#[45]⟩ : ByteArray) = txt [45] from rfl, txt_app]; rfl
    have HV := Lib.hid hvs
    have HU := Lib.hid (And.intro hu (And.intro hu1 hul))
    clear hvs hul
    go_enter Tryd.func11, Tryd.ntmps11
    go_wp2_with fail
    go_loopw [3, 5] (fun m o wr => ∃ (a : Nat) (t : List Nat), m = .int .u64 a ∧ o = .string (txt t) ∧ a ≤ 9223372036854775808 ∧ t.length ≤ 19 ∧ Hid (Bytes t ∧ (a = 0 → t = dec u) ∧ (a ≠ 0 → dec a ++ t = dec u)) ∧ Quiet w wr) (fun m _ _ => (intOf m).toNat)
    case atStart => exact ⟨u, [], by go_num, rfl, hu1, by simp, ⟨bytes_nil, fun h => absurd h hu, fun _ => by simp⟩, Quiet.refl _⟩
    case round =>
      obtain ⟨a, t, rfl, rfl, ha, ht, hinv, hq⟩ := hrel
      have hts : (txt t).size = t.length := txt_size t
      clear hu hu1
      by_cases hpos : 0 < a
      · have sl := fig_slice (a % 10) (by omega)
        have ek : ((a : Int) % 10).toNat = a % 10 := by omega
        have ek1 : ((a : Int) % 10 + 1).toNat = a % 10 + 1 := by omega
        have hr1 : (txt [48 + a % 10]).size = 1 := txt_size _
        have hnew : ((48 + a % 10) :: t).length ≤ 19 ∧ Bytes ((48 + a % 10) :: t) ∧ (a / 10 = 0 → (48 + a % 10) :: t = dec u) ∧ (a / 10 ≠ 0 → dec (a / 10) ++ ((48 + a % 10) :: t) = dec u) := by
          obtain ⟨q1, _, q3⟩ := hinv.out
          have q3 := q3 (by omega)
          have hby : Bytes ((48 + a % 10) :: t) := fun c hc => by
            rcases List.mem_cons.1 hc with rfl | hc
            · omega
            · exact q1 c hc
          by_cases hs : a < 10
          · rw [dec_small hs] at q3
            have e : a % 10 = a := by omega
            rw [e]
            refine ⟨by have := congrArg List.length q3; have := HU.out.2.2; simp at *; omega, by rw [← e]; exact hby, fun _ => by rw [← q3]; rfl, fun h => absurd (show a / 10 = 0 by omega) h⟩
          · rw [dec_big hs] at q3
            rw [List.append_assoc] at q3
            refine ⟨by have := congrArg List.length q3; have := HU.out.2.2; simp at *; omega, hby, fun h => absurd h (by omega), fun _ => q3⟩
        have HN := Lib.hid hnew
        clear hnew
        go_wp2_with fail
        go_roundw
        case rel => exact ⟨a / 10, (48 + a % 10) :: t, by go_num, by rw [txt_app]; rfl, by omega, HN.out.1, HN.out.2, hq⟩
        case measure => simp [intOf]; omega
      · have ha0 : a = 0 := by omega
        subst ha0
        have hfin := hinv.out.2.1 rfl
        have HF := Lib.hid hfin
        clear hfin hpos
        go_wp2_with fail
        go_ret
        exact ⟨by rw [HV.out, ← HF.out]; rfl, hq.below _⟩
  · have _z := hz
    obtain ⟨u, rfl⟩ : ∃ u : Nat, n = (u : Int) := ⟨n.natAbs, by omega⟩
    have hu : u ≠ 0 := by omega
    have hu1 : u ≤ 9223372036854775808 := by omega
    have hul : (dec u).length ≤ 19 := dec_len u 19 (by omega) (by omega)
    have hvs : txt (showN ((u : Int))) = txt (dec u) := by
      unfold showN; rw [if_neg (by omega), Int.toNat_natCast]
    have HV := Lib.hid hvs
    have HU := Lib.hid (And.intro hu (And.intro hu1 hul))
    clear hvs hul
    go_enter Tryd.func11, Tryd.ntmps11
    go_wp2_with fail
    go_loopw [3, 5] (fun m o wr => ∃ (a : Nat) (t : List Nat), m = .int .u64 a ∧ o = .string (txt t) ∧ a ≤ 9223372036854775808 ∧ t.length ≤ 19 ∧ Hid (Bytes t ∧ (a = 0 → t = dec u) ∧ (a ≠ 0 → dec a ++ t = dec u)) ∧ Quiet w wr) (fun m _ _ => (intOf m).toNat)
    case atStart => exact ⟨u, [], by go_num, rfl, hu1, by simp, ⟨bytes_nil, fun h => absurd h hu, fun _ => by simp⟩, Quiet.refl _⟩
    case round =>
      obtain ⟨a, t, rfl, rfl, ha, ht, hinv, hq⟩ := hrel
      have hts : (txt t).size = t.length := txt_size t
      clear hu hu1
      by_cases hpos : 0 < a
      · have sl := fig_slice (a % 10) (by omega)
        have ek : ((a : Int) % 10).toNat = a % 10 := by omega
        have ek1 : ((a : Int) % 10 + 1).toNat = a % 10 + 1 := by omega
        have hr1 : (txt [48 + a % 10]).size = 1 := txt_size _
        have hnew : ((48 + a % 10) :: t).length ≤ 19 ∧ Bytes ((48 + a % 10) :: t) ∧ (a / 10 = 0 → (48 + a % 10) :: t = dec u) ∧ (a / 10 ≠ 0 → dec (a / 10) ++ ((48 + a % 10) :: t) = dec u) := by
          obtain ⟨q1, _, q3⟩ := hinv.out
          have q3 := q3 (by omega)
          have hby : Bytes ((48 + a % 10) :: t) := fun c hc => by
            rcases List.mem_cons.1 hc with rfl | hc
            · omega
            · exact q1 c hc
          by_cases hs : a < 10
          · rw [dec_small hs] at q3
            have e : a % 10 = a := by omega
            rw [e]
            refine ⟨by have := congrArg List.length q3; have := HU.out.2.2; simp at *; omega, by rw [← e]; exact hby, fun _ => by rw [← q3]; rfl, fun h => absurd (show a / 10 = 0 by omega) h⟩
          · rw [dec_big hs] at q3
            rw [List.append_assoc] at q3
            refine ⟨by have := congrArg List.length q3; have := HU.out.2.2; simp at *; omega, hby, fun h => absurd h (by omega), fun _ => q3⟩
        have HN := Lib.hid hnew
        clear hnew
        go_wp2_with fail
        go_roundw
        case rel => exact ⟨a / 10, (48 + a % 10) :: t, by go_num, by rw [txt_app]; rfl, by omega, HN.out.1, HN.out.2, hq⟩
        case measure => simp [intOf]; omega
      · have ha0 : a = 0 := by omega
        subst ha0
        have hfin := hinv.out.2.1 rfl
        have HF := Lib.hid hfin
        clear hfin hpos
        go_wp2_with fail
        go_ret
        exact ⟨by rw [HV.out, ← HF.out]; exact congrArg (fun x => Ending.returned (Value.string x)) (empty_app _), hq.below _⟩
end Go.Proofs.YtffhogadgjnkkaaDoor
