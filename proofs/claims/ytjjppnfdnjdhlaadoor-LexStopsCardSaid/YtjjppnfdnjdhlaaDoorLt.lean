/- The law's walk: 'topiarylaw07.LexStops' returns true whatever the text; the variables hold what the texts lay. -/
import Derived.Test.YtjjppnfdnjdhlaaDoorAw
namespace Go.Proofs.YtjjppnfdnjdhlaaDoor
open Go.RowKit

theorem ends_index (k : Nat) (hk : k < 6) (W : World) : ∃ m, endsL[k]? = some m ∧ Bytes m ∧ m.length ≤ 3 ∧ (Instr.index 40 (.agg #[.string ⟨#[]⟩, .string ⟨#[34]⟩, .string ⟨#[110, 34]⟩, .string ⟨#[102, 102, 34]⟩, .string ⟨#[102, 34]⟩, .string ⟨#[61]⟩]) (.int .i64 (k : Int))).run Tryd.prog W = .ok (.string (txt m)) W := by
  rcases k with _ | _ | _ | _ | _ | _ | k
  all_goals first | omega | exact ⟨_, rfl, by unfold Bytes; decide, by decide, by kernel_rfl⟩
theorem scan_long {l : List Nat} (h : 4096 < l.length) : scanN l = ([], 0, 3) := by unfold scanN; rw [if_pos h]
theorem scan_fine {l : List Nat} (hl : Bytes l) (h : (scanN l).2.2 = 0) : (scanN l).2.1 = 0 := by
  by_cases h4 : l.length ≤ 4096
  · rcases scan_cases hl h4 with ⟨T, i', hT, e⟩ | ⟨T, r', i', n, hT, hs, e⟩
    · rw [e]
    · rw [e] at h; exact absurd h (by simp)
  · rw [scan_long (by omega)] at h; exact absurd h (by simp)

set_option maxRecDepth 100000 in
set_option maxHeartbeats 8000000 in
theorem stops_walk (s : ByteArray) (hss : s.size ≤ 140737488351232) (w : World) (hm : Marks w) (hp : Pow w) :
    Calls Tryd.prog 6 #[.string s] w fun e w' => e = .returned (.bool true) ∧ Below w.heap.size w w' := by
  have AW := Lib.hid (awake_any w hm hp)
  have hsm : s.size ≤ maxLen := by unfold maxLen; omega
  have SC : Hid (∀ (x : ByteArray) (W : World), x.size ≤ maxLen → Below w.heap.size w W → Calls Tryd.prog 9 #[.string x] W (ScanIs W (scanN (bs x)))) := Lib.hid (fun x W hx hW => scan_any x hx W (hm.below hW))
  obtain ⟨n, hn⟩ : ∃ n, s.size = n := ⟨_, rfl⟩
  have hln : (bs s).length = n := by rw [bs_len, hn]
  have hn' : (s.size : Int) = (n : Int) := by rw [hn]
  have hfine := scan_fine (bs_bytes s)
  have hlong := scan_long (l := bs s)
  have hlaw := stops_law (bs_bytes s)
  rw [hln] at hlong hlaw
  obtain ⟨M, hM⟩ : ∃ M, scanN (bs s) = M := ⟨_, rfl⟩
  have SM : Hid (∀ W, Below w.heap.size w W → Calls Tryd.prog 9 #[.string s] W (ScanIs W M)) := Lib.hid (fun W hW => hM ▸ SC.out s W hsm hW)
  rw [hM] at hfine hlong hlaw
  obtain ⟨M, at_, er⟩ := M
  dsimp only at hfine hlong hlaw
  have tok1 : True := trivial
  have tok2 : True := trivial
  rw [hn] at hss
  have Hn := Lib.hid hn
  clear hm hp hM hsm hln hn
  by_cases her : er = 0
  · subst her
    have h0 := hfine rfl
    subst h0
    clear hfine hlong hlaw
    go_enter Tryd.func6, Tryd.ntmps6
    go_wp2_with (first
    | (go_at_call 14
       refine AW.out.mono ?_
       rintro e w0 ⟨rfl, b0⟩
       have B0 := Lib.hid b0
       clear b0)
    | (go_at_call 9
       have _t := tok1
       refine (SM.out _ B0.out).mono ?_
       rintro e w1 ⟨a1, n1, c1, rfl, _, b1⟩
       have B1 := Lib.hid (B0.out.trans (b1.mono B0.out.size))
       clear b1 tok1 _t))
    go_ret
    exact ⟨rfl, B1.out⟩
  by_cases h4 : 4096 < n
  · have h3 := hlong h4
    injection h3 with h3 h5
    injection h5 with h5 h6
    subst h5 h6
    have d1 : decide (4096 < (n : Int)) = true := by simp; omega
    clear hfine hlong hlaw
    go_enter Tryd.func6, Tryd.ntmps6
    go_wp2_with (first
    | (go_at_call 14
       refine AW.out.mono ?_
       rintro e w0 ⟨rfl, b0⟩
       have B0 := Lib.hid b0
       clear b0)
    | (go_at_call 9
       have _t := tok1
       refine (SM.out _ B0.out).mono ?_
       rintro e w1 ⟨a1, n1, c1, rfl, _, b1⟩
       have B1 := Lib.hid (B0.out.trans (b1.mono B0.out.size))
       clear b1 tok1 _t))
    go_ret
    exact ⟨rfl, B1.out⟩
  obtain ⟨g1, g2, g3, g4⟩ := hlaw (by omega) her
  subst g1
  have e1 : decide ((at_ : Int) < 0) = false := by simp only [decide_eq_false_iff_not]; omega
  have e2 : decide ((n : Int) < (at_ : Int)) = false := by simp; omega
  have e3 : decide (n < at_) = false := by simp; omega
  have e4 : ((at_ : Int) == (at_ : Int)) = true := by simp
  have hcut : bs (s.extract 0 at_) = (bs s).take at_ := by rw [bs_extract, List.drop_zero]
  have hcs : (s.extract 0 at_).size = at_ := by rw [← bs_len, hcut, List.length_take, bs_len, Hn.out]; omega
  have Hcut := Lib.hid (And.intro hcut hcs)
  obtain ⟨U, hU⟩ : ∃ U, scanN ((bs s).take at_) = U := ⟨_, rfl⟩
  have SU : Hid (∀ W, Below w.heap.size w W → Calls Tryd.prog 9 #[.string (s.extract 0 at_)] W (ScanIs W U)) := Lib.hid (fun W hW => by
    have := SC.out (s.extract 0 at_) W (by rw [hcs]; unfold maxLen; omega) hW
    rw [hcut, hU] at this
    exact this)
  rw [hU] at g3
  obtain ⟨U, ua, ue⟩ := U
  dsimp only at g3
  have G4 := Lib.hid g4
  clear hfine hlong hlaw hcut hcs hU g4 her
  rcases g3 with g3 | ⟨g3, g5⟩
  all_goals subst g3
  rotate_left
  have g6 := g5.symm
  clear g5
  subst g6
  all_goals
    by_cases hle : 4093 < at_
    · have d2 : decide (4093 < (at_ : Int)) = true := by simp; omega
      go_enter Tryd.func6, Tryd.ntmps6
      go_wp2_with (first
    | (go_at_call 14
       refine AW.out.mono ?_
       rintro e w0 ⟨rfl, b0⟩
       have B0 := Lib.hid b0
       clear b0)
    | (go_at_call 9
       have _t := tok1
       refine (SM.out _ B0.out).mono ?_
       rintro e w1 ⟨a1, n1, c1, rfl, _, b1⟩
       have B1 := Lib.hid (B0.out.trans (b1.mono B0.out.size))
       clear b1 tok1 _t)
    | (go_at_call 9
       have _t := tok2
       refine (SU.out _ B1.out).mono ?_
       rintro e w2 ⟨a2, n2, c2, rfl, _, b2⟩
       have B2 := Lib.hid (B1.out.trans (b2.mono B1.out.size))
       clear b2 tok2 _t))
      go_ret
      exact ⟨rfl, B2.out⟩
    · have d2 : decide (4093 < (at_ : Int)) = false := by simp; omega
      obtain ⟨x, hx, hx0⟩ := G4.out (by omega)
      obtain ⟨q, hq⟩ := List.mem_iff_getElem?.1 hx
      have hq6 : q < 6 := (List.getElem?_eq_some_iff.1 hq).1
      have HX := Lib.hid (And.intro hq hx0)
      clear hx hq hx0
      go_enter Tryd.func6, Tryd.ntmps6
      go_wp2_with (first
    | (go_at_call 14
       refine AW.out.mono ?_
       rintro e w0 ⟨rfl, b0⟩
       have B0 := Lib.hid b0
       clear b0)
    | (go_at_call 9
       have _t := tok1
       refine (SM.out _ B0.out).mono ?_
       rintro e w1 ⟨a1, n1, c1, rfl, _, b1⟩
       have B1 := Lib.hid (B0.out.trans (b1.mono B0.out.size))
       clear b1 tok1 _t)
    | (go_at_call 9
       have _t := tok2
       refine (SU.out _ B1.out).mono ?_
       rintro e w2 ⟨a2, n2, c2, rfl, _, b2⟩
       have B2 := Lib.hid (B1.out.trans (b2.mono B1.out.size))
       clear b2 tok2 _t))
      go_loopw [73] (fun i wr => ∃ k : Nat, k ≤ q ∧ i = .int .i64 (k : Int) ∧ Hid (Below w.heap.size w wr)) (fun i _ => 6 - (intOf i).toNat)
      case atStart => exact ⟨0, Nat.zero_le _, by go_num, B2.out.alloc B2.out.size _⟩
      case round =>
        clear B1 B2
        obtain ⟨k, hk, rfl, hb⟩ := hrel
        have c1 : (0 : Int) ≤ (k : Int) := Int.natCast_nonneg _
        have d3 : decide ((k : Int) < 6) = true := by simp; omega
        obtain ⟨m, hm, hmb, hm3, _⟩ := ends_index k (by omega) wr
        have hidx : ∀ W, (Instr.index 40 (.agg #[.string ⟨#[]⟩, .string ⟨#[34]⟩, .string ⟨#[110, 34]⟩, .string ⟨#[102, 102, 34]⟩, .string ⟨#[102, 34]⟩, .string ⟨#[61]⟩]) (.int .i64 (k : Int))).run Tryd.prog W = .ok (.string (txt m)) W := fun W => by
          obtain ⟨m', hm', _, _, h⟩ := ends_index k (by omega) W
          rw [hm] at hm'
          injection hm' with hm'
          subst hm'
          exact h
        have hcat : bs (s.extract 0 at_ ++ txt m) = (bs s).take at_ ++ m := by rw [bs_append, Hcut.out.1, bs_txt hmb]
        have z1 : (s.extract 0 at_).size ≤ 4096 := by have := Hcut.out.2; omega
        have z2 : (txt m).size ≤ 3 := by rw [txt_size]; exact hm3
        obtain ⟨V, hV⟩ : ∃ V, scanN ((bs s).take at_ ++ m) = V := ⟨_, rfl⟩
        have SV : Hid (∀ W, Below w.heap.size w W → Calls Tryd.prog 9 #[.string (s.extract 0 at_ ++ txt m)] W (ScanIs W V)) := Lib.hid (fun W hW => by
          have := SC.out (s.extract 0 at_ ++ txt m) W (by rw [← bs_len, hcat, List.length_append, List.length_take]; unfold maxLen; omega) hW
          rw [hcat, hV] at this
          exact this)
        have hkq : k = q → V.2.2 = 0 := fun h => by
          subst h
          have h1 := HX.out.1
          rw [hm] at h1
          injection h1 with h1
          subst h1
          rw [← hV]
          exact HX.out.2
        obtain ⟨V, va, ve⟩ := V
        dsimp only at hkq
        have Hkq := Lib.hid hkq
        clear hm hmb hcat hV hkq
        by_cases hve : ve = 0
        · subst hve
          go_wp2_with (first
            | (go_at_call 9
               refine (SV.out _ hb.out).mono ?_
               rintro e w3 ⟨a3, n3, c3, rfl, _, b3⟩
               have B3 := Lib.hid (hb.out.trans (b3.mono hb.out.size))
               clear b3))
          (try simp only [Exit.inBlock, Exit.then, Exit.noGoto_ret])
          go_ret
          exact ⟨rfl, B3.out⟩
        · have hve1 : ((ve : Int) == 0) = false := by simp; omega
          have hkl : k + 1 ≤ q := by
            rcases Nat.lt_or_ge k q with h | h
            · omega
            · exact absurd (Hkq.out (by omega)) hve
          clear hve
          go_wp2_with (first
            | (go_at_call 9
               refine (SV.out _ hb.out).mono ?_
               rintro e w3 ⟨a3, n3, c3, rfl, _, b3⟩
               have B3 := Lib.hid (hb.out.trans (b3.mono hb.out.size))
               clear b3))
          go_roundw
          case rel => exact ⟨k + 1, hkl, by go_num, B3.out⟩
          case measure => simp [intOf]; omega
end Go.Proofs.YtjjppnfdnjdhlaaDoor
