/- - - - - - -/
import Derived.Test.YtpkggobhhieeoaaDoorKMBuild
import Derived.Test.YtpkggobhhieeoaaDoorKImpS
import Derived.Test.YtpkggobhhieeoaaDoorKM8
import Derived.Test.YtpkggobhhieeoaaDoorKM5
import Derived.Test.YtpkggobhhieeoaaDoorKM9
import Derived.Test.YtpkggobhhieeoaaDoorKTqA
import Derived.Test.YtpkggobhhieeoaaDoorKTpX
set_option maxRecDepth 100000
set_option maxHeartbeats 32000000
set_option linter.unusedSimpArgs false
set_option linter.unusedVariables false
namespace Go.Proofs.YtpkggobhhieeoaaDoor
open Go.RowKit
theorem BuiltSt.drewN {w : World} {B b : Nat} {l : List Nat} (h : BuiltSt w B b l) (n : Nat) : BuiltSt (w.drewN n) B b l := h
end Go.Proofs.YtpkggobhhieeoaaDoor
namespace Go.Proofs.YtpkggobhhieeoaaDoor
open Go.RowKit
def quoteN (l : List Nat) : List Nat := 34 :: l.flatMap formN ++ [34]
theorem flat_len : ∀ (l : List Nat), (l.flatMap formN).length ≤ 4 * l.length
  | [] => by simp
  | c :: l => by
    have := flat_len l
    have := (form_len c).2
    simp only [List.flatMap_cons, List.length_append, List.length_cons]
    omega
theorem take_flat {l : List Nat} {k c : Nat} (h : l[k]? = some c) : 34 :: (l.take (k + 1)).flatMap formN = (34 :: (l.take k).flatMap formN) ++ formN c := by
  have hk := (List.getElem?_eq_some_iff.1 h).1
  rw [List.take_succ_eq_append_getElem hk, (List.getElem?_eq_some_iff.1 h).2, List.flatMap_append]
  simp
theorem quote_bytes {l : List Nat} (h : Bytes l) : Bytes (quoteN l) := by
  intro n hn
  simp only [quoteN, List.cons_append, List.mem_cons, List.mem_append, List.mem_flatMap, List.not_mem_nil, or_false] at hn
  rcases hn with rfl | ⟨c, hc, hn⟩ | rfl
  · omega
  · exact formN_bytes c (h c hc) n hn
  · omega
theorem bits_and (n : Nat) (hn : n < 256) : bits .and .u8 (n : Int) 15 = ((n % 16 : Nat) : Int) := by
  have : ∀ n : Fin 256, bits .and .u8 (n.1 : Int) 15 = ((n.1 % 16 : Nat) : Int) := by decide +kernel
  exact this ⟨n, hn⟩
theorem hidden_of (c : Nat) (b : Bool) (hb : hiddenN c = b) (w : World) : Calls Tryd.prog 50 #[.int .u8 (c : Int)] w fun e w' => e = .returned (.bool b) ∧ Quiet w w' := hb ▸ hidden_any c w
theorem quote_any (s : ByteArray) (hs : s.size ≤ 1048576) (w : World) : Calls Tryd.prog 36 #[.string s] w fun e w' => e = .returned (.string (txt (quoteN (bs s)))) ∧ Below w.heap.size w w' := by
  obtain ⟨j, hi, hz, hsz, hby⟩ := info_parts info_byte
  have I := zH (And.intro hi (And.intro hz (And.intro hsz hby)))
  clear hi hz hsz hby
  obtain ⟨n, hn⟩ : ∃ n, s.size = n := ⟨_, rfl⟩
  have Hn := zH hn
  rw [hn] at hs
  have hn' : (s.size : Int) = (n : Int) := by rw [hn]
  clear hn
  go_enter Tryd.func36, Tryd.ntmps36
  go_wp2_with fail
  go_loopw [3, 9] (fun o i wr => ∃ k : Nat, k ≤ n ∧ i = .int .i64 k ∧ Below w.heap.size w wr ∧ Hid (Own1 wr w.heap.size 5 1 IsByte o (34 :: ((bs s).take k).flatMap formN))) (fun _ i _ => n - (intOf i).toNat)
  case atStart =>
    exact ⟨0, Nat.zero_le _, rfl, (Below.refl _ w).alloc zL _, own_bytes (xs := [.int .u8 34]) rfl zL rfl (fun m hm => by simp at hm; omega) (by simp [maxLen]) 1 1 rfl rfl⟩
  case round =>
    obtain ⟨k, hk, rfl, hb, ho⟩ := hrel
    have b0 : (0 : Int) ≤ (k : Int) := Int.natCast_nonneg _
    by_cases hlt : k < n
    · have hlt' : k < s.size := by rw [Hn.out]; exact hlt
      obtain ⟨c, hc, c256⟩ := get_bs hlt'
      have i1 := fun W => index_txt W 9 Tryd.underlying9 hc .i64 _ rfl
      have hfl := flat_len ((bs s).take k)
      have htk := List.length_take_le k (bs s)
      have hlen : (34 :: ((bs s).take k).flatMap formN).length ≤ 1 + 4 * k := by rw [List.length_cons]; omega
      have Hlen := zH hlen
      have Htf := zH (take_flat hc)
      have hbz := hb.size
      clear hc hfl htk hlen
      by_cases c1 : c = 10
      · subst c1
        go_wp2_with (at_builtin
                     go_must (refine wpList_append_bytes rfl (.tmp 22) (.tmp 23) _ rfl w.heap.size (wr.heap.size + 1) 5 j Tryd.underlying50 I.out.1 I.out.2.1 I.out.2.2.1 I.out.2.2.2 (l := 34 :: ((bs s).take k).flatMap formN) (m := [92, 110]) u3 rfl (by exact ho.out.alloc _) (some ⟨wr.heap.size, 0, none⟩) 2 2 rfl (by exact bytes_row (xs := [.int .u8 92, .int .u8 110]) rfl rfl (fun m hm => by simp at hm; omega) (by simp [maxLen]) 2 2 rfl rfl) (by have := Hlen.out; omega) (by rw [World.size_alloc]; omega) ?_)
                     intro xa xn xc w4 hown hb4)
        go_roundw
        case rel => exact ⟨k + 1, by omega, by go_num, (hb.alloc (by omega) _).trans hb4, by rw [Htf.out]; exact hown⟩
        case measure => simp [intOf]; omega
      have e1 : ((c : Int) == 10) = false := by simp; omega
      by_cases c2 : hiddenN c = true
      · have Hh := zH (fun W => hidden_of c true c2 W)
        have hf := form_hidden c2
        rw [hf] at Htf
        clear hf c2
        have s1 : bits .and .u8 (c : Int) 15 = ((c % 16 : Nat) : Int) := bits_and c c256
        have i2 := fun W => index_hex W 9 Tryd.underlying9 (c / 16) (by omega) .u8 ((c : Int) / 16) (by omega)
        have i3 := fun W => index_hex W 9 Tryd.underlying9 (c % 16) (by omega) .u8 ((c : Int) % 16) (by omega)
        have x1 := hexN_lt (c / 16) (by omega)
        have x2 := hexN_lt (c % 16) (by omega)
        generalize hexN (c / 16) = q1 at *
        generalize hexN (c % 16) = q2 at *
        go_wp2_with (go_at_call 50; refine (Hh.out _).mono ?_; rintro e w1 ⟨rfl, qq⟩)
        have ho1 : Hid (Own1 w1 w.heap.size 5 1 IsByte u3 (34 :: ((bs s).take k).flatMap formN)) := by
          obtain ⟨q, rfl⟩ := qq
          exact ho.out.drewN q
        have hb1 : Below w.heap.size w w1 := by
          obtain ⟨q, rfl⟩ := qq
          exact below_drewN hb q
        have hz1 := hb1.size
        clear qq ho hb
        go_region_held3 (fun _ => True)
          (trivial)
          (first
            | (go_must (refine step_append_bytes rfl (.tmp 28) (.tmp 35) _ rfl w.heap.size (w1.heap.size + 1) 5 j Tryd.underlying50 I.out.1 I.out.2.1 I.out.2.2.1 I.out.2.2.2 (l := 34 :: ((bs s).take k).flatMap formN) (m := [92, 120, q1, q2]) u3 rfl (by exact (ho1.out.alloc _).drew) (some ⟨w1.heap.size, 0, none⟩) 4 4 rfl (by exact bytes_row (xs := [.int .u8 92, .int .u8 120, .int .u8 (q1 : Int), .int .u8 (q2 : Int)]) rfl rfl (fun m hm => by simp at hm; omega) (by simp [maxLen]) 4 4 rfl rfl) (by have := Hlen.out; omega) (by show _ ≤ (w1.alloc _).heap.size; rw [World.size_alloc]; omega) ?_)
               intro xa xn xc w4 hown hb4
               have hbb : Below w.heap.size w w4 := (hb1.alloc (by omega) _).drew.trans hb4
               clear hb4))
        all_goals
          go_wp2_with fail
          go_roundw
          case rel => exact ⟨k + 1, by omega, by go_num, hbb, by rw [Htf.out]; exact hown⟩
          case measure => simp [intOf]; omega
      have Hh := zH (fun W => hidden_of c false (by simpa using c2) W)
      simp only [hiddenN, decide_eq_true_eq] at c2
      by_cases c3 : c = 34 ∨ c = 92
      · have Hf : formN c = [92, c] := by rcases c3 with rfl | rfl <;> rfl
        rw [Hf] at Htf
        clear Hf c2
        rcases c3 with rfl | rfl
        all_goals
          go_wp2_with (first
            | (go_at_call 50; refine (Hh.out _).mono ?_; rintro e w1 ⟨rfl, qq⟩
               have ho1 : Hid (Own1 w1 w.heap.size 5 1 IsByte u3 (34 :: ((bs s).take k).flatMap formN)) := by
                 obtain ⟨q, rfl⟩ := qq
                 exact ho.out.drewN q
               have hb1 : Below w.heap.size w w1 := by
                 obtain ⟨q, rfl⟩ := qq
                 exact below_drewN hb q
               have hz1 := hb1.size
               clear qq ho hb)
            | (at_builtin
               go_must (refine wpList_append_bytes rfl (.tmp 44) (.tmp 46) _ rfl w.heap.size (w1.heap.size + 1) 5 j Tryd.underlying50 I.out.1 I.out.2.1 I.out.2.2.1 I.out.2.2.2 (l := 34 :: ((bs s).take k).flatMap formN) (m := [92, _]) u3 rfl (by exact ho1.out.alloc _) (some ⟨w1.heap.size, 0, none⟩) 2 2 rfl (by exact bytes_row (xs := [.int .u8 92, .int .u8 _]) rfl rfl (fun m hm => by simp at hm; omega) (by simp [maxLen]) 2 2 rfl rfl) (by have := Hlen.out; omega) (by rw [World.size_alloc]; omega) ?_)
               intro xa xn xc w4 hown hb4
               have hbb : Below w.heap.size w w4 := (hb1.alloc (by omega) _).trans hb4))
          go_roundw
          case rel => exact ⟨k + 1, by omega, by go_num, hbb, by rw [Htf.out]; exact hown⟩
          case measure => simp [intOf]; omega
      · have e2 : ((c : Int) == 34) = false := by simp; omega
        have e3 : ((c : Int) == 92) = false := by simp; omega
        have Hf : formN c = [c] := form_plain (by omega) (by omega) (by omega) (by omega)
        rw [Hf] at Htf
        clear Hf c2 c3
        go_wp2_with (first
            | (go_at_call 50; refine (Hh.out _).mono ?_; rintro e w1 ⟨rfl, qq⟩
               have ho1 : Hid (Own1 w1 w.heap.size 5 1 IsByte u3 (34 :: ((bs s).take k).flatMap formN)) := by
                 obtain ⟨q, rfl⟩ := qq
                 exact ho.out.drewN q
               have hb1 : Below w.heap.size w w1 := by
                 obtain ⟨q, rfl⟩ := qq
                 exact below_drewN hb q
               have hz1 := hb1.size
               clear qq ho hb)
            | (at_builtin
               go_must (refine wpList_append_bytes rfl (.tmp 15) (.tmp 17) _ rfl w.heap.size (w1.heap.size + 1) 5 j Tryd.underlying50 I.out.1 I.out.2.1 I.out.2.2.1 I.out.2.2.2 (l := 34 :: ((bs s).take k).flatMap formN) (m := [c]) u3 rfl (by exact ho1.out.alloc _) (some ⟨w1.heap.size, 0, none⟩) 1 1 rfl (by exact bytes_row (xs := [.int .u8 (c : Int)]) rfl rfl (fun m hm => by simp at hm; omega) (by simp [maxLen]) 1 1 rfl rfl) (by have := Hlen.out; omega) (by rw [World.size_alloc]; omega) ?_)
               intro xa xn xc w4 hown hb4
               have hbb : Below w.heap.size w w4 := (hb1.alloc (by omega) _).trans hb4))
        go_roundw
        case rel => exact ⟨k + 1, by omega, by go_num, hbb, by rw [Htf.out]; exact hown⟩
        case measure => simp [intOf]; omega
    · have hge : n ≤ k := by omega
      have hdec : decide (k < n) = false := by simp; omega
      clear hlt
      have hall : (bs s).take k = bs s := List.take_of_length_le (by rw [bs_len, Hn.out]; exact hge)
      rw [hall] at ho
      have hlen := flat_len (bs s)
      rw [bs_len, Hn.out] at hlen
      have Hlen := zH hlen
      have hbz := hb.size
      clear hall hlen
      go_wp2_with (at_builtin
                   go_must (refine wpList_append_bytes rfl (.tmp 49) (.tmp 50) _ rfl w.heap.size (wr.heap.size + 1) 5 j Tryd.underlying50 I.out.1 I.out.2.1 I.out.2.2.1 I.out.2.2.2 (l := 34 :: (bs s).flatMap formN) (m := [34]) u3 rfl (by exact ho.out.alloc _) (some ⟨wr.heap.size, 0, none⟩) 1 1 rfl (by exact bytes_row (xs := [.int .u8 34]) rfl rfl (fun m hm => by simp at hm; omega) (by simp [maxLen]) 1 1 rfl rfl) (by have := Hlen.out; rw [List.length_cons]; omega) (by rw [World.size_alloc]; omega) ?_)
                   intro xa xn xc w4 hown hb4
                   have hbb : Below w.heap.size w w4 := (hb.alloc (by omega) _).trans hb4
                   have hc := run_text_of_row 50 9 5 Tryd.underlying50 Tryd.underlying5 Tryd.underlying9 hown
                   clear hown hb4)
      go_ret
      exact ⟨rfl, hbb⟩
end Go.Proofs.YtpkggobhhieeoaaDoor
namespace Go.Proofs.YtpkggobhhieeoaaDoor
open Go.RowKit
def Cell.lt47 (c : Cell) : Prop := c.text.size ≤ 140737488355328 ∧ c.mark.size ≤ 140737488355328
def Cell.pc (c : Cell) : Pc := ⟨c.kind, bs c.text, bs c.mark⟩
def kindP (p : Pc) : Bool :=
  if p.kind = 1 then decide (p.text ≠ []) && decide (p.mark = [])
  else if p.kind = 2 then rightN p.text && decide (p.mark = [])
  else if p.kind = 3 then rightN p.text
  else if p.kind = 4 then rightN p.text && (decide (p.mark = []) || rightN p.mark)
  else if p.kind = 5 then decide ((parseN p.text).2.2 = 0) && decide (p.mark = [])
  else false
def plainP (p : Pc) : Bool := decide (p.text.length + p.mark.length ≤ 4096) && kindP p
theorem plain_eq (k : Int) (x y : List Nat) : plainP ⟨k, x, y⟩ = (decide (x.length + y.length ≤ 4096) && (if k = 1 then decide (x ≠ []) && decide (y = []) else if k = 2 then rightN x && decide (y = []) else if k = 3 then rightN x else if k = 4 then rightN x && (decide (y = []) || rightN y) else if k = 5 then decide ((parseN x).2.2 = 0) && decide (y = []) else false)) := rfl
def rightG (w : Bool) (i : Nat) : List Pc → Nat × Nat
  | [] => (0, 0)
  | p :: r => if plainP p = true ∧ ¬ (w = true ∧ p.kind = 1) then rightG (decide (p.kind = 1)) (i + 1) r else (i, 200)
def rightP (l : List Pc) : Nat × Nat := if 64 < l.length then (0, 4) else rightG false 0 l
def twiceN (c : Nat) (l : List Nat) : List Nat := l.flatMap fun x => if x = c then [x, x] else [x]
def bracesN (l : List Nat) : List Nat := twiceN 125 (twiceN 123 l)
def shownP (p : Pc) : List Nat :=
  if p.kind = 2 then [123, 46] ++ p.text ++ [125]
  else if p.kind = 3 then (if p.mark = [] then [123, 35] ++ p.text ++ [125] else [123, 35] ++ p.text ++ [32] ++ quoteN p.mark ++ [125])
  else if p.kind = 4 then (if p.mark = [] then [123, 45, 62] ++ p.text ++ [125] else [123, 45, 62] ++ p.text ++ [46] ++ p.mark ++ [125])
  else if p.kind = 5 then [123, 61] ++ p.text ++ [125]
  else bracesN p.text
def printP (l : List Pc) : List Nat × Nat := if (rightP l).2 ≠ 0 then ([], (rightP l).2) else if 4096 < (l.flatMap shownP).length then ([], 3) else (l.flatMap shownP, 0)
theorem empty_bs {t : ByteArray} {b : Bool} (h : decide (bs t = []) = b) : (t.toList == []) = b := by
  have := txt_empty_iff (t := bs t)
  rw [txt_bs] at this
  rw [← h]
  by_cases hb : bs t = []
  · rw [this.2 hb, hb]; rfl
  · have h2 : ¬ t.toList = [] := fun e => hb (this.1 e)
    simp [h2, hb]
theorem empty_bsn {t : ByteArray} {b : Bool} (h : decide (bs t = []) = b) : (t.toList != []) = !b := by rw [bne, empty_bs h]
theorem right_is_ (s : ByteArray) (hs : s.size ≤ maxLen) (b : Bool) (hb : rightN (bs s) = b) (w : World) : Calls Tryd.prog 38 #[.string s] w fun e w' => e = .returned (.bool b) ∧ Quiet w w' := hb ▸ right_any s hs w
end Go.Proofs.YtpkggobhhieeoaaDoor
namespace Go.Proofs.YtpkggobhhieeoaaDoor
open Go.RowKit
theorem plain_long (t m : ByteArray) (k : Int) (ht : t.size ≤ maxLen) (hmk : m.size ≤ maxLen) (t63 : t.size ≤ 140737488355328) (m63 : m.size ≤ 140737488355328) (w : World) (hl : 4096 < t.size + m.size) : Calls Tryd.prog 26 #[.agg #[.int .i64 k, .string t, .string m]] w fun e w' => e = .returned (.bool false) ∧ Below w.heap.size w w' := by
  have hsum : (t.size : Int) + (m.size : Int) ≤ 281474976710656 := by omega
  have h00 : (0 : Int) ≤ (t.size : Int) + (m.size : Int) := by omega
  have B1 : Hid (Below w.heap.size w (w.alloc (.cells #[.int .i64 k, .string t, .string m] 30))) := zH (zB.alloc zL _)
  have K1 : Hid (Blk (w.alloc (.cells #[.int .i64 k, .string t, .string m] 30)) w.heap.size 30 #[.int .i64 k, .string t, .string m]) := zH (Blk.new _ _ _)
  have hs2 : (4096 : Int) < (t.size : Int) + (m.size : Int) := by omega
  go_enter Tryd.func26, Tryd.ntmps26
  go_upto_region 1 with fail
  generalize World.alloc _ _ = w1 at *
  obtain ⟨c0, z0, c1, z1, c2, z2, l0⟩ := Blk.f3 K1.out
  go_wp2_with fail
  go_ret
  exact ⟨rfl, B1.out⟩
theorem plain1_no (t m : ByteArray) (ht : t.size ≤ maxLen) (hmk : m.size ≤ maxLen) (t63 : t.size ≤ 140737488355328) (m63 : m.size ≤ 140737488355328) (w : World) (hsm : t.size + m.size ≤ 4096) (he : decide (bs t = []) = true) : Calls Tryd.prog 26 #[.agg #[.int .i64 1, .string t, .string m]] w fun e w' => e = .returned (.bool false) ∧ Below w.heap.size w w' := by
  have hsum : (t.size : Int) + (m.size : Int) ≤ 281474976710656 := by omega
  have h00 : (0 : Int) ≤ (t.size : Int) + (m.size : Int) := by omega
  have B1 : Hid (Below w.heap.size w (w.alloc (.cells #[.int .i64 1, .string t, .string m] 30))) := zH (zB.alloc zL _)
  have K1 : Hid (Blk (w.alloc (.cells #[.int .i64 1, .string t, .string m] 30)) w.heap.size 30 #[.int .i64 1, .string t, .string m]) := zH (Blk.new _ _ _)
  have hs2 : ¬ (4096 : Int) < (t.size : Int) + (m.size : Int) := by omega
  have e1 := empty_bs he
  have e1' := empty_bsn he
  go_enter Tryd.func26, Tryd.ntmps26
  go_upto_region 1 with fail
  generalize World.alloc _ _ = w1 at *
  obtain ⟨c0, z0, c1, z1, c2, z2, l0⟩ := Blk.f3 K1.out
  go_wp2_with fail
  go_ret
  exact ⟨rfl, B1.out⟩
theorem plain1 (t m : ByteArray) (ht : t.size ≤ maxLen) (hmk : m.size ≤ maxLen) (t63 : t.size ≤ 140737488355328) (m63 : m.size ≤ 140737488355328) (w : World) (hsm : t.size + m.size ≤ 4096) (he : decide (bs t = []) = false) (b : Bool) (hm : decide (bs m = []) = b) : Calls Tryd.prog 26 #[.agg #[.int .i64 1, .string t, .string m]] w fun e w' => e = .returned (.bool b) ∧ Below w.heap.size w w' := by
  have hsum : (t.size : Int) + (m.size : Int) ≤ 281474976710656 := by omega
  have h00 : (0 : Int) ≤ (t.size : Int) + (m.size : Int) := by omega
  have B1 : Hid (Below w.heap.size w (w.alloc (.cells #[.int .i64 1, .string t, .string m] 30))) := zH (zB.alloc zL _)
  have K1 : Hid (Blk (w.alloc (.cells #[.int .i64 1, .string t, .string m] 30)) w.heap.size 30 #[.int .i64 1, .string t, .string m]) := zH (Blk.new _ _ _)
  have hs2 : ¬ (4096 : Int) < (t.size : Int) + (m.size : Int) := by omega
  have e1 := empty_bs he
  have e1' := empty_bsn he
  have e2 := empty_bs hm
  go_enter Tryd.func26, Tryd.ntmps26
  go_upto_region 1 with fail
  generalize World.alloc _ _ = w1 at *
  obtain ⟨c0, z0, c1, z1, c2, z2, l0⟩ := Blk.f3 K1.out
  go_wp2_with fail
  go_ret
  exact ⟨rfl, B1.out⟩
theorem plain2_no (t m : ByteArray) (ht : t.size ≤ maxLen) (hmk : m.size ≤ maxLen) (t63 : t.size ≤ 140737488355328) (m63 : m.size ≤ 140737488355328) (w : World) (hsm : t.size + m.size ≤ 4096) (h1 : rightN (bs t) = false) : Calls Tryd.prog 26 #[.agg #[.int .i64 2, .string t, .string m]] w fun e w' => e = .returned (.bool false) ∧ Below w.heap.size w w' := by
  have hsum : (t.size : Int) + (m.size : Int) ≤ 281474976710656 := by omega
  have h00 : (0 : Int) ≤ (t.size : Int) + (m.size : Int) := by omega
  have B1 : Hid (Below w.heap.size w (w.alloc (.cells #[.int .i64 2, .string t, .string m] 30))) := zH (zB.alloc zL _)
  have K1 : Hid (Blk (w.alloc (.cells #[.int .i64 2, .string t, .string m] 30)) w.heap.size 30 #[.int .i64 2, .string t, .string m]) := zH (Blk.new _ _ _)
  have hs2 : ¬ (4096 : Int) < (t.size : Int) + (m.size : Int) := by omega
  go_enter Tryd.func26, Tryd.ntmps26
  go_upto_region 1 with fail
  generalize World.alloc _ _ = w1 at *
  obtain ⟨c0, z0, c1, z1, c2, z2, l0⟩ := Blk.f3 K1.out
  have N1 := zH (right_is_ t ht false h1 w1)
  go_wp2_with (go_at_call 38; (with_reducible refine N1.out.mono ?_); rintro e w' ⟨rfl, nq, rfl⟩)
  go_ret
  exact ⟨rfl, below_drewN B1.out nq⟩
theorem plain2 (t m : ByteArray) (ht : t.size ≤ maxLen) (hmk : m.size ≤ maxLen) (t63 : t.size ≤ 140737488355328) (m63 : m.size ≤ 140737488355328) (w : World) (hsm : t.size + m.size ≤ 4096) (h1 : rightN (bs t) = true) (b : Bool) (hm : decide (bs m = []) = b) : Calls Tryd.prog 26 #[.agg #[.int .i64 2, .string t, .string m]] w fun e w' => e = .returned (.bool b) ∧ Below w.heap.size w w' := by
  have hsum : (t.size : Int) + (m.size : Int) ≤ 281474976710656 := by omega
  have h00 : (0 : Int) ≤ (t.size : Int) + (m.size : Int) := by omega
  have B1 : Hid (Below w.heap.size w (w.alloc (.cells #[.int .i64 2, .string t, .string m] 30))) := zH (zB.alloc zL _)
  have K1 : Hid (Blk (w.alloc (.cells #[.int .i64 2, .string t, .string m] 30)) w.heap.size 30 #[.int .i64 2, .string t, .string m]) := zH (Blk.new _ _ _)
  have hs2 : ¬ (4096 : Int) < (t.size : Int) + (m.size : Int) := by omega
  have e2 := empty_bs hm
  go_enter Tryd.func26, Tryd.ntmps26
  go_upto_region 1 with fail
  generalize World.alloc _ _ = w1 at *
  obtain ⟨c0, z0, c1, z1, c2, z2, l0⟩ := Blk.f3 K1.out
  have N1 := zH (right_is_ t ht true h1 w1)
  go_wp2_with (go_at_call 38; (with_reducible refine N1.out.mono ?_); rintro e w' ⟨rfl, nq, rfl⟩)
  go_ret
  exact ⟨rfl, below_drewN B1.out nq⟩
theorem plain3 (t m : ByteArray) (ht : t.size ≤ maxLen) (hmk : m.size ≤ maxLen) (t63 : t.size ≤ 140737488355328) (m63 : m.size ≤ 140737488355328) (w : World) (hsm : t.size + m.size ≤ 4096) (b : Bool) (h1 : rightN (bs t) = b) : Calls Tryd.prog 26 #[.agg #[.int .i64 3, .string t, .string m]] w fun e w' => e = .returned (.bool b) ∧ Below w.heap.size w w' := by
  have hsum : (t.size : Int) + (m.size : Int) ≤ 281474976710656 := by omega
  have h00 : (0 : Int) ≤ (t.size : Int) + (m.size : Int) := by omega
  have B1 : Hid (Below w.heap.size w (w.alloc (.cells #[.int .i64 3, .string t, .string m] 30))) := zH (zB.alloc zL _)
  have K1 : Hid (Blk (w.alloc (.cells #[.int .i64 3, .string t, .string m] 30)) w.heap.size 30 #[.int .i64 3, .string t, .string m]) := zH (Blk.new _ _ _)
  have hs2 : ¬ (4096 : Int) < (t.size : Int) + (m.size : Int) := by omega
  go_enter Tryd.func26, Tryd.ntmps26
  go_upto_region 1 with fail
  generalize World.alloc _ _ = w1 at *
  obtain ⟨c0, z0, c1, z1, c2, z2, l0⟩ := Blk.f3 K1.out
  have N1 := zH (right_is_ t ht b h1 w1)
  go_wp2_with (go_at_call 38; (with_reducible refine N1.out.mono ?_); rintro e w' ⟨rfl, nq, rfl⟩)
  go_ret
  exact ⟨rfl, below_drewN B1.out nq⟩
theorem plain4_no (t m : ByteArray) (ht : t.size ≤ maxLen) (hmk : m.size ≤ maxLen) (t63 : t.size ≤ 140737488355328) (m63 : m.size ≤ 140737488355328) (w : World) (hsm : t.size + m.size ≤ 4096) (h1 : rightN (bs t) = false) : Calls Tryd.prog 26 #[.agg #[.int .i64 4, .string t, .string m]] w fun e w' => e = .returned (.bool false) ∧ Below w.heap.size w w' := by
  have hsum : (t.size : Int) + (m.size : Int) ≤ 281474976710656 := by omega
  have h00 : (0 : Int) ≤ (t.size : Int) + (m.size : Int) := by omega
  have B1 : Hid (Below w.heap.size w (w.alloc (.cells #[.int .i64 4, .string t, .string m] 30))) := zH (zB.alloc zL _)
  have K1 : Hid (Blk (w.alloc (.cells #[.int .i64 4, .string t, .string m] 30)) w.heap.size 30 #[.int .i64 4, .string t, .string m]) := zH (Blk.new _ _ _)
  have hs2 : ¬ (4096 : Int) < (t.size : Int) + (m.size : Int) := by omega
  go_enter Tryd.func26, Tryd.ntmps26
  go_upto_region 1 with fail
  generalize World.alloc _ _ = w1 at *
  obtain ⟨c0, z0, c1, z1, c2, z2, l0⟩ := Blk.f3 K1.out
  have N1 := zH (right_is_ t ht false h1 w1)
  go_wp2_with (go_at_call 38; (with_reducible refine N1.out.mono ?_); rintro e w' ⟨rfl, nq, rfl⟩)
  go_ret
  exact ⟨rfl, below_drewN B1.out nq⟩
theorem plain4 (t m : ByteArray) (ht : t.size ≤ maxLen) (hmk : m.size ≤ maxLen) (t63 : t.size ≤ 140737488355328) (m63 : m.size ≤ 140737488355328) (w : World) (hsm : t.size + m.size ≤ 4096) (h1 : rightN (bs t) = true) (hm : decide (bs m = []) = true) : Calls Tryd.prog 26 #[.agg #[.int .i64 4, .string t, .string m]] w fun e w' => e = .returned (.bool true) ∧ Below w.heap.size w w' := by
  have hsum : (t.size : Int) + (m.size : Int) ≤ 281474976710656 := by omega
  have h00 : (0 : Int) ≤ (t.size : Int) + (m.size : Int) := by omega
  have B1 : Hid (Below w.heap.size w (w.alloc (.cells #[.int .i64 4, .string t, .string m] 30))) := zH (zB.alloc zL _)
  have K1 : Hid (Blk (w.alloc (.cells #[.int .i64 4, .string t, .string m] 30)) w.heap.size 30 #[.int .i64 4, .string t, .string m]) := zH (Blk.new _ _ _)
  have hs2 : ¬ (4096 : Int) < (t.size : Int) + (m.size : Int) := by omega
  have e2 := empty_bs hm
  go_enter Tryd.func26, Tryd.ntmps26
  go_upto_region 1 with fail
  generalize World.alloc _ _ = w1 at *
  obtain ⟨c0, z0, c1, z1, c2, z2, l0⟩ := Blk.f3 K1.out
  have N1 := zH (right_is_ t ht true h1 w1)
  go_wp2_with (go_at_call 38; (with_reducible refine N1.out.mono ?_); rintro e w' ⟨rfl, nq, rfl⟩)
  go_ret
  exact ⟨rfl, below_drewN B1.out nq⟩
theorem plain4m (t m : ByteArray) (ht : t.size ≤ maxLen) (hmk : m.size ≤ maxLen) (t63 : t.size ≤ 140737488355328) (m63 : m.size ≤ 140737488355328) (w : World) (hsm : t.size + m.size ≤ 4096) (h1 : rightN (bs t) = true) (hm : decide (bs m = []) = false) (b : Bool) (h2 : rightN (bs m) = b) : Calls Tryd.prog 26 #[.agg #[.int .i64 4, .string t, .string m]] w fun e w' => e = .returned (.bool b) ∧ Below w.heap.size w w' := by
  have hsum : (t.size : Int) + (m.size : Int) ≤ 281474976710656 := by omega
  have h00 : (0 : Int) ≤ (t.size : Int) + (m.size : Int) := by omega
  have B1 : Hid (Below w.heap.size w (w.alloc (.cells #[.int .i64 4, .string t, .string m] 30))) := zH (zB.alloc zL _)
  have K1 : Hid (Blk (w.alloc (.cells #[.int .i64 4, .string t, .string m] 30)) w.heap.size 30 #[.int .i64 4, .string t, .string m]) := zH (Blk.new _ _ _)
  have hs2 : ¬ (4096 : Int) < (t.size : Int) + (m.size : Int) := by omega
  have e2 := empty_bs hm
  go_enter Tryd.func26, Tryd.ntmps26
  go_upto_region 1 with fail
  generalize World.alloc _ _ = w1 at *
  obtain ⟨c0, z0, c1, z1, c2, z2, l0⟩ := Blk.f3 K1.out
  have N1 := zH (right_is_ t ht true h1 w1)
  have N2 := zH (fun W => right_is_ m hmk b h2 W)
  have tokA : True := trivial
  go_wp2_with (first
    | (have _t := tokA; go_at_call 38; (with_reducible refine N1.out.mono ?_); rintro e w' ⟨rfl, nq, rfl⟩; clear tokA _t)
    | (go_at_call 38; (with_reducible refine (N2.out _).mono ?_); rintro e w' ⟨rfl, nq2, rfl⟩))
  go_ret
  exact ⟨rfl, by first | exact below_drewN (below_drewN B1.out _) _ | exact below_drewN B1.out _⟩
theorem plain5_no (t m : ByteArray) (ht : t.size ≤ maxLen) (hmk : m.size ≤ maxLen) (t63 : t.size ≤ 140737488355328) (m63 : m.size ≤ 140737488355328) (w : World) {es : List EN} {at_ er : Nat} (hm0 : Marks w) (hg0 : Signs w) (h4w : 4 < w.heap.size) (hsm : t.size + m.size ≤ 4096) (hP : parseN (bs t) = (es, at_, er)) (her : er ≠ 0) : Calls Tryd.prog 26 #[.agg #[.int .i64 5, .string t, .string m]] w fun e w' => e = .returned (.bool false) ∧ Below w.heap.size w w' := by
  have hsum : (t.size : Int) + (m.size : Int) ≤ 281474976710656 := by omega
  have h00 : (0 : Int) ≤ (t.size : Int) + (m.size : Int) := by omega
  have B1 : Hid (Below w.heap.size w (w.alloc (.cells #[.int .i64 5, .string t, .string m] 30))) := zH (zB.alloc zL _)
  have K1 : Hid (Blk (w.alloc (.cells #[.int .i64 5, .string t, .string m] 30)) w.heap.size 30 #[.int .i64 5, .string t, .string m]) := zH (Blk.new _ _ _)
  have hs2 : ¬ (4096 : Int) < (t.size : Int) + (m.size : Int) := by omega
  have e1 : ((er : Int) == 0) = false := by simp; omega
  go_enter Tryd.func26, Tryd.ntmps26
  go_upto_region 1 with fail
  generalize World.alloc _ _ = w1 at *
  obtain ⟨c0, z0, c1, z1, c2, z2, l0⟩ := Blk.f3 K1.out
  have PX : Hid (Calls Tryd.prog 39 #[.string t] w1 (ParseIs w1 (es, at_, er))) := zH (by
    have := parse_any t ht w1 (hm0.below B1.out) (hg0.of_block (B1.out.block 4 h4w))
    rwa [hP] at this)
  go_wp2_with (go_at_call 39; (refine PX.out.mono ?_); rintro e w2 ⟨pv, rfl, hsl, h1⟩; obtain ⟨pa, pn, pc, hpv⟩ := hsl.form'; subst hpv; clear hsl; have K2 := zH (K1.out.below h1 K1.out.lt); have B2 := zH (B1.out.trans (h1.mono B1.out.size)); clear h1 c0 z0 c1 z1 c2 z2 l0; obtain ⟨c0, z0, c1, z1, c2, z2, l0⟩ := Blk.f3 K2.out; have d0 : (w2.alloc (.cells #[.slice pa pn pc] 69)).cell? ⟨w.heap.size, 2, none⟩ = some (.string m) := (K2.out.alloc _).cell rfl)
  go_ret
  exact ⟨rfl, B2.out.alloc B2.out.size _⟩
theorem plain5 (t m : ByteArray) (ht : t.size ≤ maxLen) (hmk : m.size ≤ maxLen) (t63 : t.size ≤ 140737488355328) (m63 : m.size ≤ 140737488355328) (w : World) {es : List EN} {at_ : Nat} (hm0 : Marks w) (hg0 : Signs w) (h4w : 4 < w.heap.size) (hsm : t.size + m.size ≤ 4096) (hP : parseN (bs t) = (es, at_, 0)) (b : Bool) (hm : decide (bs m = []) = b) : Calls Tryd.prog 26 #[.agg #[.int .i64 5, .string t, .string m]] w fun e w' => e = .returned (.bool b) ∧ Below w.heap.size w w' := by
  have hsum : (t.size : Int) + (m.size : Int) ≤ 281474976710656 := by omega
  have h00 : (0 : Int) ≤ (t.size : Int) + (m.size : Int) := by omega
  have B1 : Hid (Below w.heap.size w (w.alloc (.cells #[.int .i64 5, .string t, .string m] 30))) := zH (zB.alloc zL _)
  have K1 : Hid (Blk (w.alloc (.cells #[.int .i64 5, .string t, .string m] 30)) w.heap.size 30 #[.int .i64 5, .string t, .string m]) := zH (Blk.new _ _ _)
  have hs2 : ¬ (4096 : Int) < (t.size : Int) + (m.size : Int) := by omega
  have e2 := empty_bs hm
  go_enter Tryd.func26, Tryd.ntmps26
  go_upto_region 1 with fail
  generalize World.alloc _ _ = w1 at *
  obtain ⟨c0, z0, c1, z1, c2, z2, l0⟩ := Blk.f3 K1.out
  have PX : Hid (Calls Tryd.prog 39 #[.string t] w1 (ParseIs w1 (es, at_, 0))) := zH (by
    have := parse_any t ht w1 (hm0.below B1.out) (hg0.of_block (B1.out.block 4 h4w))
    rwa [hP] at this)
  go_wp2_with (go_at_call 39; (refine PX.out.mono ?_); rintro e w2 ⟨pv, rfl, hsl, h1⟩; obtain ⟨pa, pn, pc, hpv⟩ := hsl.form'; subst hpv; clear hsl; have K2 := zH (K1.out.below h1 K1.out.lt); have B2 := zH (B1.out.trans (h1.mono B1.out.size)); clear h1 c0 z0 c1 z1 c2 z2 l0; obtain ⟨c0, z0, c1, z1, c2, z2, l0⟩ := Blk.f3 K2.out; have d0 : (w2.alloc (.cells #[.slice pa pn pc] 69)).cell? ⟨w.heap.size, 2, none⟩ = some (.string m) := (K2.out.alloc _).cell rfl)
  go_ret
  exact ⟨rfl, B2.out.alloc B2.out.size _⟩
theorem plain_none (t m : ByteArray) (k : Int) (ht : t.size ≤ maxLen) (hmk : m.size ≤ maxLen) (t63 : t.size ≤ 140737488355328) (m63 : m.size ≤ 140737488355328) (w : World) (h1 : k ≠ 1) (h2 : k ≠ 2) (h3 : k ≠ 3) (h4 : k ≠ 4) (h5 : k ≠ 5) (hsm : t.size + m.size ≤ 4096) : Calls Tryd.prog 26 #[.agg #[.int .i64 k, .string t, .string m]] w fun e w' => e = .returned (.bool false) ∧ Below w.heap.size w w' := by
  have hsum : (t.size : Int) + (m.size : Int) ≤ 281474976710656 := by omega
  have h00 : (0 : Int) ≤ (t.size : Int) + (m.size : Int) := by omega
  have B1 : Hid (Below w.heap.size w (w.alloc (.cells #[.int .i64 k, .string t, .string m] 30))) := zH (zB.alloc zL _)
  have K1 : Hid (Blk (w.alloc (.cells #[.int .i64 k, .string t, .string m] 30)) w.heap.size 30 #[.int .i64 k, .string t, .string m]) := zH (Blk.new _ _ _)
  have hs2 : ¬ (4096 : Int) < (t.size : Int) + (m.size : Int) := by omega
  have k1 : (k == 1) = false := by simp; omega
  have k2 : (k == 2) = false := by simp; omega
  have k3 : (k == 3) = false := by simp; omega
  have k4 : (k == 4) = false := by simp; omega
  have k5 : (k == 5) = false := by simp; omega
  go_enter Tryd.func26, Tryd.ntmps26
  go_upto_region 1 with fail
  generalize World.alloc _ _ = w1 at *
  obtain ⟨c0, z0, c1, z1, c2, z2, l0⟩ := Blk.f3 K1.out
  go_wp2_with fail
  go_ret
  exact ⟨rfl, B1.out⟩
theorem plain_any (c : Cell) (hc : c.ok) (h47 : c.lt47) (w : World) (hm0 : Marks w) (hg0 : Signs w) : Calls Tryd.prog 26 #[.agg #[.int .i64 c.kind, .string c.text, .string c.mark]] w fun e w' => e = .returned (.bool (plainP c.pc)) ∧ Below w.heap.size w w' := by
  have h4w : 4 < w.heap.size := by
    obtain ⟨t, fr, h⟩ := signs_block hg0
    rcases Nat.lt_or_ge 4 w.heap.size with h0 | h0
    · exact h0
    · rw [Array.getElem?_eq_none h0] at h; cases h
  obtain ⟨k, t, m⟩ := c
  obtain ⟨hk, ht, hmk⟩ := hc
  obtain ⟨t63, m63⟩ := h47
  simp only at hk ht hmk t63 m63 ⊢
  obtain ⟨R, hR⟩ : ∃ R, plainP (Cell.pc ⟨k, t, m⟩) = R := ⟨_, rfl⟩
  rw [hR]
  replace hR : plainP ⟨k, bs t, bs m⟩ = R := hR
  rw [plain_eq] at hR
  simp only [bs_len] at hR
  by_cases hl : t.size + m.size ≤ 4096
  rotate_left
  · rw [decide_eq_false hl, Bool.false_and] at hR
    subst hR
    exact plain_long t m k ht hmk t63 m63 w (by omega)
  rw [decide_eq_true hl, Bool.true_and] at hR
  by_cases k1 : k = 1
  · rw [if_pos k1] at hR
    subst k1
    by_cases he : bs t = []
    · simp only [he, ne_eq, not_true_eq_false, decide_false, Bool.false_and] at hR
      subst hR
      exact plain1_no t m ht hmk t63 m63 w hl (by simpa using he)
    · simp only [he, ne_eq, not_false_eq_true, decide_true, Bool.true_and] at hR
      exact plain1 t m ht hmk t63 m63 w hl (by simpa using he) R hR
  rw [if_neg k1] at hR
  by_cases k2 : k = 2
  · rw [if_pos k2] at hR
    subst k2
    cases hr : rightN (bs t) with
    | false => rw [hr, Bool.false_and] at hR; subst hR; exact plain2_no t m ht hmk t63 m63 w hl hr
    | true => rw [hr, Bool.true_and] at hR; exact plain2 t m ht hmk t63 m63 w hl hr R hR
  rw [if_neg k2] at hR
  by_cases k3 : k = 3
  · rw [if_pos k3] at hR; subst k3; exact plain3 t m ht hmk t63 m63 w hl R hR
  rw [if_neg k3] at hR
  by_cases k4 : k = 4
  · rw [if_pos k4] at hR
    subst k4
    cases hr : rightN (bs t) with
    | false => rw [hr, Bool.false_and] at hR; subst hR; exact plain4_no t m ht hmk t63 m63 w hl hr
    | true =>
      rw [hr, Bool.true_and] at hR
      cases hm : decide (bs m = []) with
      | true => rw [hm, Bool.true_or] at hR; subst hR; exact plain4 t m ht hmk t63 m63 w hl hr hm
      | false => rw [hm, Bool.false_or] at hR; exact plain4m t m ht hmk t63 m63 w hl hr hm R hR
  rw [if_neg k4] at hR
  by_cases k5 : k = 5
  · rw [if_pos k5] at hR
    subst k5
    obtain ⟨⟨es, at_, er⟩, hP⟩ : ∃ z, parseN (bs t) = z := ⟨_, rfl⟩
    rw [hP] at hR
    by_cases he : er = 0
    · subst he
      simp only [decide_true, Bool.true_and] at hR
      exact plain5 t m ht hmk t63 m63 w hm0 hg0 h4w hl hP R hR
    · simp only [he, decide_false, Bool.false_and] at hR
      subst hR
      exact plain5_no t m ht hmk t63 m63 w hm0 hg0 h4w hl hP he
  rw [if_neg k5] at hR
  subst hR
  exact plain_none t m k ht hmk t63 m63 w k1 k2 k3 k4 k5 hl
end Go.Proofs.YtpkggobhhieeoaaDoor
namespace Go.Proofs.YtpkggobhhieeoaaDoor
open Go.RowKit
def prevW (l : List Pc) (k : Nat) : Bool := match k with
  | 0 => false
  | k + 1 => match l[k]? with
    | some p => decide (p.kind = 1)
    | none => false
section
variable {l : List Pc} {k : Nat} {R : Nat × Nat} {p : Pc}
theorem drop_at (h : l[k]? = some p) : l.drop k = p :: l.drop (k + 1) := by
  obtain ⟨h1, h2⟩ := List.getElem?_eq_some_iff.1 h
  rw [List.drop_eq_getElem_cons h1, h2]
theorem rg_end (h : rightG (prevW l k) k (l.drop k) = R) (hk : l.length ≤ k) : R = (0, 0) := by
  rw [← h, List.drop_eq_nil_of_le hk]
  rfl
theorem rg_no (h : rightG (prevW l k) k (l.drop k) = R) (hp : l[k]? = some p) (hb : plainP p = false ∨ (prevW l k = true ∧ p.kind = 1)) : R = (k, 200) := by
  rw [← h, drop_at hp, rightG, if_neg]
  rintro ⟨h1, h2⟩
  rcases hb with hb | hb
  · rw [hb] at h1; cases h1
  · exact h2 hb
theorem rg_on (h : rightG (prevW l k) k (l.drop k) = R) (hp : l[k]? = some p) (hb : plainP p = true) (hn : ¬ (prevW l k = true ∧ p.kind = 1)) : rightG (prevW l (k + 1)) (k + 1) (l.drop (k + 1)) = R := by
  rw [← h, drop_at hp]
  conv => rhs; rw [rightG, if_pos ⟨hb, hn⟩]
  simp only [prevW, hp]
end
theorem plain_is (c : Cell) (hc : c.ok) (h47 : c.lt47) (w : World) (hm0 : Marks w) (hg0 : Signs w) (b : Bool) (hb : plainP c.pc = b) : Calls Tryd.prog 26 #[.agg #[.int .i64 c.kind, .string c.text, .string c.mark]] w fun e w' => e = .returned (.bool b) ∧ Below w.heap.size w w' := hb ▸ plain_any c hc h47 w hm0 hg0
theorem right_row {l : List Cell} {v : Value} (w w0 : World) (hs : SlR w0 w0.heap.size 3 Cell.Is v l) (h47 : ∀ c ∈ l, c.lt47) (hm : Marks w0) (hg : Signs w0) (hw : Below w0.heap.size w0 w) :
    Calls Tryd.prog 12 #[v] w fun e w' => e = .returned (.tuple #[.int .i64 ((rightP (l.map Cell.pc)).1 : Int), .int .i64 ((rightP (l.map Cell.pc)).2 : Int)]) ∧ Below w.heap.size w w' := by
  have h4w : 4 < w0.heap.size := by
    obtain ⟨t, fr, h⟩ := signs_block hg
    rcases Nat.lt_or_ge 4 w0.heap.size with h0 | h0
    · exact h0
    · rw [Array.getElem?_eq_none h0] at h; cases h
  obtain ⟨a, c, rfl⟩ : ∃ a c, v = .slice a l.length c := by obtain ⟨a, c, h, _⟩ := hs.form; exact ⟨a, c, h⟩
  have hcap : l.length ≤ 9223372036854775806 ∨ l.length ≤ maxLen := .inr (by have := hs.caps; omega)
  obtain ⟨n, hn⟩ : ∃ n, l.length = n := ⟨_, rfl⟩
  rw [hn] at hs ⊢
  obtain ⟨lp, hlp⟩ : ∃ lp, l.map Cell.pc = lp := ⟨_, rfl⟩
  have hln : lp.length = n := by rw [← hlp, List.length_map, hn]
  obtain ⟨R, hR⟩ : ∃ R, rightP lp = R := ⟨_, rfl⟩
  rw [hlp, hR]
  have Hs := zH hs
  have Hn := zH hn
  have Hln := zH hln
  have Hlp := zH hlp
  have H47 := zH h47
  have Hm := zH hm
  have Hg := zH hg
  have HwB := zH hw
  have H4 := zH h4w
  by_cases hbig : 64 < n
  · have hv : R = (0, 4) := by rw [← hR]; unfold rightP; rw [hln, if_pos hbig]
    subst hv
    have d1 : decide ((64 : Int) < (n : Int)) = true := by simp; omega
    have d2 : (64 : Int) < (n : Int) := by omega
    clear hs hn hln hlp h47 hm hg hw hR hcap h4w
    go_enter Tryd.func12, Tryd.ntmps12
    go_wp2_with fail
    go_ret2
    exact ⟨rfl, zB⟩
  · have d1 : decide ((64 : Int) < (n : Int)) = false := by simp; omega
    have d2 : ¬ (64 : Int) < (n : Int) := by omega
    have hgo : rightG (prevW lp 0) 0 (lp.drop 0) = R := by rw [← hR]; unfold rightP; rw [hln, if_neg hbig]; rfl
    have HG := zH hgo
    have n64 : n ≤ 64 := by omega
    clear hs hn hln hlp h47 hm hg hw hR hcap h4w hgo
    go_enter Tryd.func12, Tryd.ntmps12
    go_wp2_with fail
    go_loopg [2, 3, 4, 5, 11] n (fun gk v2 v3 _ _ v11 wr => ∃ k : Nat, v2 = .int .i64 0 ∧ v3 = .int .i64 0 ∧ v11 = .int .i64 (k : Int) ∧ k ≤ n ∧ n = gk + k ∧ Hid (rightG (prevW lp k) k (lp.drop k) = R) ∧ Hid (Below w.heap.size w wr))
    case atStart => exact ⟨0, rfl, rfl, rfl, Nat.zero_le _, by omega, HG, zH zB⟩
    case round =>
      obtain ⟨k, rfl, rfl, rfl, hk, hgn, hu, hb⟩ := hrel
      have k0 : (0 : Int) ≤ (k : Int) := Int.natCast_nonneg _
      have GN := zH hgn
      clear hgn
      by_cases hlt : k < n
      · have d3 : decide (k < n) = true := by simpa using hlt
        have k64 : (k : Int) ≤ 64 := by omega
        obtain ⟨c, hc⟩ := get_some Hn.out hlt
        have hpc : lp[k]? = some c.pc := by rw [← Hlp.out, List.getElem?_map, hc]; rfl
        have HPC := zH hpc
        have hw1 := HwB.out.trans (hb.out.mono HwB.out.size)
        obtain ⟨bb, off, x, rfl, hbB, hxl, ⟨rfl, hcok⟩, hx⟩ := (Hs.out.below hw1).at_ hc
        have x0 := hx 0 _ rfl
        have x1 := hx 1 _ rfl
        have x2 := hx 2 _ rfl
        rw [Nat.add_zero] at x0
        have hc47 := H47.out c (List.mem_iff_getElem?.2 ⟨k, hc⟩)
        have BW1 : Hid (Below w0.heap.size w0 (wr.alloc (.cells #[.int .i64 c.kind, .string c.text, .string c.mark] 30))) := zH (hw1.alloc hw1.size _)
        have BB1 : Hid (Below w.heap.size w (wr.alloc (.cells #[.int .i64 c.kind, .string c.text, .string c.mark] 30))) := zH (hb.out.alloc hb.out.size _)
        have K1 : Hid (Blk (wr.alloc (.cells #[.int .i64 c.kind, .string c.text, .string c.mark] 30)) wr.heap.size 30 #[.int .i64 c.kind, .string c.text, .string c.mark]) := zH (Blk.new _ _ _)
        cases hpl : plainP c.pc with
        | false =>
          have HB := zH hpl
          have hv := rg_no hu.out HPC.out (.inl hpl)
          subst hv
          have PC := zH (fun W (hW : Below w0.heap.size w0 W) => plain_is c hcok hc47 W (Hm.out.below hW) (Hg.out.of_block (hW.block 4 H4.out)) false HB.out)
          clear hx hw1 hpl hpc hc
          go_wp2_with (go_at_call 26; (refine (PC.out _ BW1.out).mono ?_); rintro e w2 ⟨rfl, h1⟩; have B2 := zH (BB1.out.trans (h1.mono BB1.out.size)); have hz2 : w.heap.size ≤ w2.heap.size := B2.out.size; have K2 := zH (K1.out.below h1 K1.out.lt); clear h1; obtain ⟨c0, z0, c1, z1, c2, z2, l0⟩ := Blk.f3 K2.out)
          go_ret2
          exact ⟨rfl, B2.out⟩
        | true =>
          have HB := zH hpl
          have PC := zH (fun W (hW : Below w0.heap.size w0 W) => plain_is c hcok hc47 W (Hm.out.below hW) (Hg.out.of_block (hW.block 4 H4.out)) true HB.out)
          have HX1 := zH hpl
          clear hx hw1 hpl hpc
          by_cases hk1 : c.kind = 1
          · have e1 : ((c.kind : Int) == 1) = true := by simpa using hk1
            cases k with
            | zero =>
              simp only [Nat.zero_mul, Nat.add_zero] at x0 x1 x2
              have hv := rg_on hu.out HPC.out HX1.out (fun ⟨a, _⟩ => by cases a)
              have HV := zH hv
              have HKD := zH hk1
              clear hv hk1 hc
              go_wp2_with (go_at_call 26; (refine (PC.out _ BW1.out).mono ?_); rintro e w2 ⟨rfl, h1⟩; have B2 := zH (BB1.out.trans (h1.mono BB1.out.size)); have hz2 : w.heap.size ≤ w2.heap.size := B2.out.size; have K2 := zH (K1.out.below h1 K1.out.lt); clear h1; obtain ⟨c0, z0, c1, z1, c2, z2, l0⟩ := Blk.f3 K2.out)
              go_roundg (gk - 1)
              case measure => have := GN.out; omega
              case rel => exact ⟨1, rfl, rfl, by go_num, by omega, by have := GN.out; omega, HV, B2⟩
            | succ j =>
              obtain ⟨cj, hcj⟩ := get_some Hn.out (show j < n by omega)
              have hpj : lp[j]? = some cj.pc := by rw [← Hlp.out, List.getElem?_map, hcj]; rfl
              have PV : Hid (∀ W, Below w0.heap.size w0 W → W.cell? ⟨bb, off + j * 3, none⟩ = some (.int .i64 cj.kind) ∧ True) := zH (fun W hW => by
                obtain ⟨b', off', x', hba, _, _, ⟨rfl, _⟩, hx'⟩ := (Hs.out.below hW).at_ hcj
                injection hba with hba
                injection hba with e1 e2
                subst e1 e2
                have := hx' 0 _ rfl
                rw [Nat.add_zero] at this
                exact ⟨this, trivial⟩)
              have hpw : prevW lp (j + 1) = decide (cj.kind = 1) := by simp only [prevW, hpj]; rfl
              have HPW := zH hpw
              have e0 : ((j + 1 : Nat) : Int) - 1 = (j : Int) := by omega
              have j0 : (0 : Int) ≤ (j : Int) := Int.natCast_nonneg _
              have j1 : (j : Int) < (n : Int) := by omega
              have jp : (0 : Int) < ((j + 1 : Nat) : Int) := by omega
              have HKD := zH hk1
              by_cases hj1 : cj.kind = 1
              · have hv := rg_no hu.out HPC.out (.inr ⟨by rw [hpw]; simpa using hj1, hk1⟩)
                subst hv
                have e2 : ((cj.kind : Int) == 1) = true := by simpa using hj1
                have HJ1 := zH hj1
                clear hcj hpj hpw hk1 hj1 hc
                go_wp2_with (go_at_call 26; (refine (PC.out _ BW1.out).mono ?_); rintro e w2 ⟨rfl, h1⟩; have B2 := zH (BB1.out.trans (h1.mono BB1.out.size)); have hz2 : w.heap.size ≤ w2.heap.size := B2.out.size; have K2 := zH (K1.out.below h1 K1.out.lt); clear h1; obtain ⟨c0, z0, c1, z1, c2, z2, l0⟩ := Blk.f3 K2.out; obtain ⟨p0, _⟩ := PV.out w2 (HwB.out.trans (B2.out.mono HwB.out.size)))
                go_ret2
                exact ⟨rfl, B2.out⟩
              · have hv := rg_on hu.out HPC.out HX1.out (fun ⟨a, _⟩ => by rw [hpw] at a; exact hj1 (by simpa using a))
                have HV := zH hv
                have e2 : ((cj.kind : Int) == 1) = false := by simpa using hj1
                have HJ1 := zH hj1
                clear hcj hpj hpw hk1 hj1 hv hc
                go_wp2_with (go_at_call 26; (refine (PC.out _ BW1.out).mono ?_); rintro e w2 ⟨rfl, h1⟩; have B2 := zH (BB1.out.trans (h1.mono BB1.out.size)); have hz2 : w.heap.size ≤ w2.heap.size := B2.out.size; have K2 := zH (K1.out.below h1 K1.out.lt); clear h1; obtain ⟨c0, z0, c1, z1, c2, z2, l0⟩ := Blk.f3 K2.out; obtain ⟨p0, _⟩ := PV.out w2 (HwB.out.trans (B2.out.mono HwB.out.size)))
                go_roundg (gk - 1)
                case measure => have := GN.out; omega
                case rel => exact ⟨j + 1 + 1, rfl, rfl, by go_num, by omega, by have := GN.out; omega, HV, B2⟩
          · have e1 : ((c.kind : Int) == 1) = false := by simpa using hk1
            have hv := rg_on hu.out HPC.out HX1.out (fun ⟨_, a⟩ => hk1 a)
            have HV := zH hv
            have HKD := zH hk1
            clear hv hk1 hc
            have hk2 : (0 < k) ∨ k = 0 := by omega
            rcases hk2 with hk2 | hk2
            · have dk : decide ((0 : Int) < (k : Int)) = true := by simp; omega
              have dk2 : (0 : Int) < (k : Int) := by omega
              go_wp2_with (go_at_call 26; (refine (PC.out _ BW1.out).mono ?_); rintro e w2 ⟨rfl, h1⟩; have B2 := zH (BB1.out.trans (h1.mono BB1.out.size)); have hz2 : w.heap.size ≤ w2.heap.size := B2.out.size; have K2 := zH (K1.out.below h1 K1.out.lt); clear h1; obtain ⟨c0, z0, c1, z1, c2, z2, l0⟩ := Blk.f3 K2.out)
              go_roundg (gk - 1)
              case measure => have := GN.out; omega
              case rel => exact ⟨k + 1, rfl, rfl, by go_num, by omega, by have := GN.out; omega, HV, B2⟩
            · subst hk2
              simp only [Nat.zero_mul, Nat.add_zero] at x0 x1 x2
              go_wp2_with (go_at_call 26; (refine (PC.out _ BW1.out).mono ?_); rintro e w2 ⟨rfl, h1⟩; have B2 := zH (BB1.out.trans (h1.mono BB1.out.size)); have hz2 : w.heap.size ≤ w2.heap.size := B2.out.size; have K2 := zH (K1.out.below h1 K1.out.lt); clear h1; obtain ⟨c0, z0, c1, z1, c2, z2, l0⟩ := Blk.f3 K2.out)
              go_roundg (gk - 1)
              case measure => have := GN.out; omega
              case rel => exact ⟨0 + 1, rfl, rfl, by go_num, by omega, by have := GN.out; omega, HV, B2⟩
      · have d3 : decide (k < n) = false := by simpa using hlt
        have hv := rg_end hu.out (by rw [Hln.out]; omega)
        subst hv
        go_wp2_with fail
        go_ret2
        exact ⟨rfl, hb.out⟩
end Go.Proofs.YtpkggobhhieeoaaDoor
