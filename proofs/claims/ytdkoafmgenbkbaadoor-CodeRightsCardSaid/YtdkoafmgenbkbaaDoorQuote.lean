/- What the two Quotes answer, of any text of at most 1048576 bytes: the same text. -/
import Derived.Test.YtdkoafmgenbkbaaDoorEsc
import Derived.Deep.RegionHeld3
namespace Go.Proofs.YtdkoafmgenbkbaaDoor
set_option linter.unusedSimpArgs false
set_option linter.unusedVariables false
open Go.RowKit

def quoteN (l : List Nat) : List Nat := 34 :: l.flatMap formN ++ [34]

theorem info_byte : (Tryd.prog.info? 5).map (fun i => (i.zero, i.size, i.bytes)) = some (some (.int .u8 0), 1, 1) := by kernel_rfl
theorem formN_bytes (c : Nat) (hc : c < 256) : Bytes (formN c) := by
  intro n hn
  rcases form_cases c with ⟨_, h⟩ | ⟨_, h⟩ | ⟨_, h⟩ | ⟨_, _, _, _, h⟩ | ⟨_, h⟩ <;> rw [h] at hn <;> simp at hn
  · omega
  · omega
  · omega
  · omega
  · have h1 := hexN_lt (c / 16) (by omega)
    have h2 := hexN_lt (c % 16) (by omega)
    omega
theorem flat_len : ∀ (l : List Nat), (l.flatMap formN).length ≤ 4 * l.length
  | [] => by simp
  | c :: l => by
    have := flat_len l
    have := (form_len c).2
    simp only [List.flatMap_cons, List.length_append, List.length_cons]
    omega
theorem take_flat {l : List Nat} {k c : Nat} (h : l[k]? = some c) : 34 :: (l.take (k + 1)).flatMap formN = (34 :: (l.take k).flatMap formN) ++ formN c := by
  have hk := (List.getElem?_eq_some_iff.1 h).1
  rw [List.take_succ_eq_append_getElem hk, (List.getElem?_eq_some_iff.1 h).2, List.flatMap_append]
  simp
theorem quote_bytes {l : List Nat} (h : Bytes l) : Bytes (quoteN l) := by
  intro n hn
  simp only [quoteN, List.cons_append, List.mem_cons, List.mem_append, List.mem_flatMap, List.not_mem_nil, or_false] at hn
  rcases hn with rfl | ⟨c, hc, hn⟩ | rfl
  · omega
  · exact formN_bytes c (h c hc) n hn
  · omega
theorem bits_and (n : Nat) (hn : n < 256) : bits .and .u8 (n : Int) 15 = ((n % 16 : Nat) : Int) := by
  have : ∀ n : Fin 256, bits .and .u8 (n.1 : Int) 15 = ((n.1 % 16 : Nat) : Int) := by decide +kernel
  exact this ⟨n, hn⟩
theorem hidden_of (c : Nat) (b : Bool) (hb : hiddenN c = b) (w : World) : Calls Tryd.prog 71 #[.int .u8 (c : Int)] w fun e w' => e = .returned (.bool b) ∧ Quiet w w' := hb ▸ hidden_any c w

set_option maxHeartbeats 2000000 in
theorem quote_any (s : ByteArray) (hs : s.size ≤ 1048576) (w : World) : Calls Tryd.prog 45 #[.string s] w fun e w' => e = .returned (.string (txt (quoteN (bs s)))) ∧ Below w.heap.size w w' := by
  obtain ⟨j, hi, hz, hsz, hby⟩ := info_parts info_byte
  have I := Lib.hid (And.intro hi (And.intro hz (And.intro hsz hby)))
  clear hi hz hsz hby
  obtain ⟨n, hn⟩ : ∃ n, s.size = n := ⟨_, rfl⟩
  have Hn := Lib.hid hn
  rw [hn] at hs
  have hn' : (s.size : Int) = (n : Int) := by rw [hn]
  clear hn
  go_enter Tryd.func45, Tryd.ntmps45
  go_wp2_with fail
  go_loopw [3, 9] (fun o i wr => ∃ k : Nat, k ≤ n ∧ i = .int .i64 k ∧ Below w.heap.size w wr ∧ Hid (Own1 wr w.heap.size 5 1 IsByte o (34 :: ((bs s).take k).flatMap formN))) (fun _ i _ => n - (intOf i).toNat)
  case atStart =>
    exact ⟨0, Nat.zero_le _, rfl, (Below.refl _ w).alloc (Nat.le_refl _) _, own_bytes (xs := [.int .u8 34]) rfl (Nat.le_refl _) rfl (fun m hm => by simp at hm; omega) (by simp [maxLen]) 1 1 rfl rfl⟩
  case round =>
    obtain ⟨k, hk, rfl, hb, ho⟩ := hrel
    have b0 : (0 : Int) ≤ (k : Int) := Int.natCast_nonneg _
    by_cases hlt : k < n
    · have hlt' : k < s.size := by rw [Hn.out]; exact hlt
      obtain ⟨c, hc, c256⟩ := get_bs hlt'
      have i1 := fun W => index_txt W 9 Tryd.underlying9 hc .i64 _ rfl
      have hfl := flat_len ((bs s).take k)
      have htk := List.length_take_le k (bs s)
      have hlen : (34 :: ((bs s).take k).flatMap formN).length ≤ 1 + 4 * k := by rw [List.length_cons]; omega
      have Hlen := Lib.hid hlen
      have Htf := Lib.hid (take_flat hc)
      have hbz := hb.size
      clear hc hfl htk hlen
      by_cases c1 : c = 10
      · subst c1
        go_wp2_with (at_builtin
                     go_must (refine wpList_append_bytes rfl (.tmp 22) (.tmp 23) _ rfl w.heap.size (wr.heap.size + 1) 5 j Tryd.underlying69 I.out.1 I.out.2.1 I.out.2.2.1 I.out.2.2.2 (l := 34 :: ((bs s).take k).flatMap formN) (m := [92, 110]) u3 rfl (by exact ho.out.alloc _) (some ⟨wr.heap.size, 0, none⟩) 2 2 rfl (by exact bytes_row (xs := [.int .u8 92, .int .u8 110]) rfl rfl (fun m hm => by simp at hm; omega) (by simp [maxLen]) 2 2 rfl rfl) (by have := Hlen.out; omega) (by rw [World.size_alloc]; omega) ?_)
                     intro xa xn xc w4 hown hb4)
        go_roundw
        case rel => exact ⟨k + 1, by omega, by go_num, (hb.alloc (by omega) _).trans hb4, by rw [Htf.out]; exact hown⟩
        case measure => simp [intOf]; omega
      have e1 : ((c : Int) == 10) = false := by simp; omega
      by_cases c2 : hiddenN c = true
      · have Hh := Lib.hid (fun W => hidden_of c true c2 W)
        have hf := form_hidden c2
        rw [hf] at Htf
        clear hf c2
        have s1 : bits .and .u8 (c : Int) 15 = ((c % 16 : Nat) : Int) := bits_and c c256
        have i2 := fun W => index_hex W 9 Tryd.underlying9 (c / 16) (by omega) .u8 ((c : Int) / 16) (by omega)
        have i3 := fun W => index_hex W 9 Tryd.underlying9 (c % 16) (by omega) .u8 ((c : Int) % 16) (by omega)
        have x1 := hexN_lt (c / 16) (by omega)
        have x2 := hexN_lt (c % 16) (by omega)
        generalize hexN (c / 16) = q1 at *
        generalize hexN (c % 16) = q2 at *
        go_wp2_with (go_at_call 71; refine (Hh.out _).mono ?_; rintro e w1 ⟨rfl, qq⟩)
        have ho1 : Hid (Own1 w1 w.heap.size 5 1 IsByte u3 (34 :: ((bs s).take k).flatMap formN)) := by
          obtain ⟨q, rfl⟩ := qq
          exact ho.out.drewN q
        have hb1 : Below w.heap.size w w1 := by
          obtain ⟨q, rfl⟩ := qq
          exact below_drewN hb q
        have hz1 := hb1.size
        clear qq ho hb
        go_region_held3 (fun _ => True)
          (trivial)
          (first
            | (go_must (refine step_append_bytes rfl (.tmp 28) (.tmp 35) _ rfl w.heap.size (w1.heap.size + 1) 5 j Tryd.underlying69 I.out.1 I.out.2.1 I.out.2.2.1 I.out.2.2.2 (l := 34 :: ((bs s).take k).flatMap formN) (m := [92, 120, q1, q2]) u3 rfl (by exact (ho1.out.alloc _).drew) (some ⟨w1.heap.size, 0, none⟩) 4 4 rfl (by exact bytes_row (xs := [.int .u8 92, .int .u8 120, .int .u8 (q1 : Int), .int .u8 (q2 : Int)]) rfl rfl (fun m hm => by simp at hm; omega) (by simp [maxLen]) 4 4 rfl rfl) (by have := Hlen.out; omega) (by show _ ≤ (w1.alloc _).heap.size; rw [World.size_alloc]; omega) ?_)
               intro xa xn xc w4 hown hb4
               have hbb : Below w.heap.size w w4 := (hb1.alloc (by omega) _).drew.trans hb4
               clear hb4))
        all_goals
          go_wp2_with fail
          go_roundw
          case rel => exact ⟨k + 1, by omega, by go_num, hbb, by rw [Htf.out]; exact hown⟩
          case measure => simp [intOf]; omega
      have Hh := Lib.hid (fun W => hidden_of c false (by simpa using c2) W)
      simp only [hiddenN, decide_eq_true_eq] at c2
      by_cases c3 : c = 34 ∨ c = 92
      · have Hf : formN c = [92, c] := by rcases c3 with rfl | rfl <;> rfl
        rw [Hf] at Htf
        clear Hf c2
        rcases c3 with rfl | rfl
        all_goals
          go_wp2_with (first
            | (go_at_call 71; refine (Hh.out _).mono ?_; rintro e w1 ⟨rfl, qq⟩
               have ho1 : Hid (Own1 w1 w.heap.size 5 1 IsByte u3 (34 :: ((bs s).take k).flatMap formN)) := by
                 obtain ⟨q, rfl⟩ := qq
                 exact ho.out.drewN q
               have hb1 : Below w.heap.size w w1 := by
                 obtain ⟨q, rfl⟩ := qq
                 exact below_drewN hb q
               have hz1 := hb1.size
               clear qq ho hb)
            | (at_builtin
               go_must (refine wpList_append_bytes rfl (.tmp 44) (.tmp 46) _ rfl w.heap.size (w1.heap.size + 1) 5 j Tryd.underlying69 I.out.1 I.out.2.1 I.out.2.2.1 I.out.2.2.2 (l := 34 :: ((bs s).take k).flatMap formN) (m := [92, _]) u3 rfl (by exact ho1.out.alloc _) (some ⟨w1.heap.size, 0, none⟩) 2 2 rfl (by exact bytes_row (xs := [.int .u8 92, .int .u8 _]) rfl rfl (fun m hm => by simp at hm; omega) (by simp [maxLen]) 2 2 rfl rfl) (by have := Hlen.out; omega) (by rw [World.size_alloc]; omega) ?_)
               intro xa xn xc w4 hown hb4
               have hbb : Below w.heap.size w w4 := (hb1.alloc (by omega) _).trans hb4))
          go_roundw
          case rel => exact ⟨k + 1, by omega, by go_num, hbb, by rw [Htf.out]; exact hown⟩
          case measure => simp [intOf]; omega
      · have e2 : ((c : Int) == 34) = false := by simp; omega
        have e3 : ((c : Int) == 92) = false := by simp; omega
        have Hf : formN c = [c] := form_plain (by omega) (by omega) (by omega) (by omega)
        rw [Hf] at Htf
        clear Hf c2 c3
        go_wp2_with (first
            | (go_at_call 71; refine (Hh.out _).mono ?_; rintro e w1 ⟨rfl, qq⟩
               have ho1 : Hid (Own1 w1 w.heap.size 5 1 IsByte u3 (34 :: ((bs s).take k).flatMap formN)) := by
                 obtain ⟨q, rfl⟩ := qq
                 exact ho.out.drewN q
               have hb1 : Below w.heap.size w w1 := by
                 obtain ⟨q, rfl⟩ := qq
                 exact below_drewN hb q
               have hz1 := hb1.size
               clear qq ho hb)
            | (at_builtin
               go_must (refine wpList_append_bytes rfl (.tmp 15) (.tmp 17) _ rfl w.heap.size (w1.heap.size + 1) 5 j Tryd.underlying69 I.out.1 I.out.2.1 I.out.2.2.1 I.out.2.2.2 (l := 34 :: ((bs s).take k).flatMap formN) (m := [c]) u3 rfl (by exact ho1.out.alloc _) (some ⟨w1.heap.size, 0, none⟩) 1 1 rfl (by exact bytes_row (xs := [.int .u8 (c : Int)]) rfl rfl (fun m hm => by simp at hm; omega) (by simp [maxLen]) 1 1 rfl rfl) (by have := Hlen.out; omega) (by rw [World.size_alloc]; omega) ?_)
               intro xa xn xc w4 hown hb4
               have hbb : Below w.heap.size w w4 := (hb1.alloc (by omega) _).trans hb4))
        go_roundw
        case rel => exact ⟨k + 1, by omega, by go_num, hbb, by rw [Htf.out]; exact hown⟩
        case measure => simp [intOf]; omega
    · have hge : n ≤ k := by omega
      have hdec : decide (k < n) = false := by simp; omega
      clear hlt
      have hall : (bs s).take k = bs s := List.take_of_length_le (by rw [bs_len, Hn.out]; exact hge)
      rw [hall] at ho
      have hlen := flat_len (bs s)
      rw [bs_len, Hn.out] at hlen
      have Hlen := Lib.hid hlen
      have hbz := hb.size
      clear hall hlen
      go_wp2_with (at_builtin
                   go_must (refine wpList_append_bytes rfl (.tmp 49) (.tmp 50) _ rfl w.heap.size (wr.heap.size + 1) 5 j Tryd.underlying69 I.out.1 I.out.2.1 I.out.2.2.1 I.out.2.2.2 (l := 34 :: (bs s).flatMap formN) (m := [34]) u3 rfl (by exact ho.out.alloc _) (some ⟨wr.heap.size, 0, none⟩) 1 1 rfl (by exact bytes_row (xs := [.int .u8 34]) rfl rfl (fun m hm => by simp at hm; omega) (by simp [maxLen]) 1 1 rfl rfl) (by have := Hlen.out; rw [List.length_cons]; omega) (by rw [World.size_alloc]; omega) ?_)
                   intro xa xn xc w4 hown hb4
                   have hbb : Below w.heap.size w w4 := (hb.alloc (by omega) _).trans hb4
                   have hc := run_text_of_row 69 9 5 Tryd.underlying69 Tryd.underlying5 Tryd.underlying9 hown
                   clear hown hb4)
      go_ret
      exact ⟨rfl, hbb⟩
end Go.Proofs.YtdkoafmgenbkbaaDoor
