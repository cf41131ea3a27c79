/- Chapter 11: the small functions of 'code': what, needs, plain, lead; rows of loops compared and copied. -/
import Derived.Test.YtdkoafmgenbkbaaDoorMPl
import Derived.Test.YtdkoafmgenbkbaaDoorMUnq
import Derived.Deep.QuietTactic
import Derived.BigQuiet
import Derived.Outline
import Derived.Lib.SliceRun
import Derived.Laws.Cover1
import Derived.Deep.AppendLies
namespace Go.Proofs.YtdkoafmgenbkbaaDoor
set_option linter.unusedSimpArgs false
set_option linter.unusedVariables false
open Go.RowKit
abbrev Loop := Int × Int

theorem neq_Loop (y z : Loop) (b : Bool) (h : decide (y = z) = !b) (W : World) : (binOp .neq 96 (.agg #[.int .i64 y.1, .int .i64 y.2]) (.agg #[.int .i64 z.1, .int .i64 z.2])).run Tryd.prog W = .ok (.bool b) W := by
  obtain ⟨y0, y1⟩ := y
  obtain ⟨z0, z1⟩ := z
  go_simp
  try simp only [toList_inj]
  cases b <;> simp at h
  all_goals first
    | (simp [h]; done)
    | (repeat' split
       all_goals simp_all)

set_option maxHeartbeats 400000 in
theorem equal_Loop {l m : List Loop} {v v' : Value} (w w0 : World)
   (hs : SlR w0 w0.heap.size 2 LoopIs v l) (ht : SlR w0 w0.heap.size 2 LoopIs v' m) (hw : Below w0.heap.size w0 w) :
    Calls Tryd.prog 34 #[v, v'] w fun e w' => e = .returned (.bool (decide (l = m))) ∧ Quiet w w' := by
  obtain ⟨a, c, rfl⟩ : ∃ a c, v = .slice a l.length c := by obtain ⟨a, c, h, _⟩ := hs.form; exact ⟨a, c, h⟩
  obtain ⟨a', c', rfl⟩ : ∃ a c, v' = .slice a m.length c := by obtain ⟨a, c, h, _⟩ := ht.form; exact ⟨a, c, h⟩
  have hn : l.length ≤ 9223372036854775807 := by have := hs.caps; unfold maxLen at this; omega
  rw [← eqBy_eq]
  by_cases hl : l.length = m.length
  · obtain ⟨n, hlen⟩ : ∃ n, l.length = n := ⟨_, rfl⟩
    rw [← hl] at ht ⊢
    rw [hlen] at hs ht hn ⊢
    have Hlen := Lib.hid hlen
    have Hl := Lib.hid hl
    have Hs := Lib.hid hs
    have Ht := Lib.hid ht
    have Hw := Lib.hid hw
    clear hs ht hlen hw hl
    go_enter Tryd.func34, Tryd.ntmps34
    go_wp2_with fail
    go_loopw [4, 5, 13] (fun _ _ j wr => ∃ k : Nat, k ≤ n ∧ j = .int .i64 k ∧ Quiet w wr ∧ Hid (∀ i y z, i < k → l[i]? = some y → m[i]? = some z → (fun a b => decide (a = b)) y z = true)) (fun _ _ j _ => n - (intOf j).toNat)
    case atStart => exact ⟨0, Nat.zero_le _, rfl, Quiet.refl _, fun i d _ hi => by omega⟩
    case round =>
      obtain ⟨k, hk, rfl, hq, hf⟩ := hrel
      have hb := hq.below w.heap.size
      by_cases hlt : k < n
      · obtain ⟨y, hd⟩ := get_some Hlen.out hlt
        obtain ⟨z, he⟩ := get_some (Hl.out.symm.trans Hlen.out) hlt
        have hw1 := Hw.out.trans (hb.mono Hw.out.size)
        obtain ⟨b, off, x, rfl, hbB, hxl, ⟨rfl, _⟩, hx⟩ := (Hs.out.below hw1).at_ hd
        obtain ⟨b', off', x', rfl, hbB', hxl', ⟨rfl, _⟩, hx'⟩ := (Ht.out.below hw1).at_ he
        have h0 := hx 0 _ rfl
        have h1 := hx 1 _ rfl
        have g0 := hx' 0 _ rfl
        have g1 := hx' 1 _ rfl
        simp only [Nat.add_zero] at h0 g0
        have Hd := Lib.hid hd
        have He := Lib.hid he
        clear hd he hx hxl hx' hxl' hw1
        by_cases hyz : y = z
        · have hne := fun W => neq_Loop y z false (by simpa using hyz) W
          have Hyz := Lib.hid hyz
          clear hyz
          go_wp2_with fail
          go_quiet (fail)
          go_wp2_with fail
          go_roundw
          case rel => exact ⟨k + 1, by omega, by go_num, hq.drewN _, so_far Hd.out He.out (by simpa using Hyz.out) hf.out⟩
          case measure => simp [intOf]; omega
        · have hne := fun W => neq_Loop y z true (by simpa using hyz) W
          have Hyz := Lib.hid hyz
          clear hyz
          go_wp2_with fail
          go_quiet (fail)
          go_wp2_with fail
          go_ret
          exact ⟨by rw [eqBy_no _ l m k y z Hd.out He.out (by simpa using Hyz.out)]; rfl, hq.drewN _⟩
      · have hge : n ≤ k := by omega
        clear hlt
        go_wp2_with fail
        go_ret
        exact ⟨by rw [eqBy_yes _ l m Hl.out (fun i y z hi => hf.out i y z (by have := Hlen.out; omega))]; rfl, hq⟩
  · have hne : ((l.length : Int) != (m.length : Int)) = true := by rw [bne_iff_ne]; omega
    have Hl := Lib.hid hl
    clear hl hs ht hw
    go_enter Tryd.func34, Tryd.ntmps34
    go_wp2_with fail
    go_ret
    exact ⟨by rw [eqBy_len _ l m Hl.out]; rfl, Quiet.refl _⟩

theorem info_Loop : (Tryd.prog.info? 96).map (fun i => (i.zero, i.size, i.bytes)) = some (some (.agg #[.int .i64 0, .int .i64 0]), 2, 16) := by kernel_rfl
theorem LoopIs.one (x : List Value) (y : Loop) (hx : LoopIs x y) : ∀ u ∈ x, u.oneCell' = true := by
  intro u hu
  rw [hx.1] at hu
  simp at hu
  rcases hu with rfl | rfl <;> rfl

set_option maxRecDepth 100000 in
set_option maxHeartbeats 1000000 in
theorem clone_Loop {l : List Loop} {v : Value} (w w0 : World) (hs : SlR w0 w0.heap.size 2 LoopIs v l) (hfit : Fit l.length 16) (hw : Below w0.heap.size w0 w) :
    Calls Tryd.prog 38 #[v] w fun e w' => ∃ a c, e = .returned (.slice a l.length c) ∧ Own1 w' w.heap.size 96 2 LoopIs (.slice a l.length c) l ∧ Below w.heap.size w w' := by
  obtain ⟨a, n, c, rfl⟩ := hs.form'
  have hn := hs.len
  have hcap := hs.caps
  have hby : n * 16 ≤ 140737488355328 := by unfold Fit at hfit; rw [hn]; exact hfit
  have Hs := Lib.hid hs
  have Hw := Lib.hid hw
  have Hcap := Lib.hid hcap
  have Hn := Lib.hid hn
  obtain ⟨j, hi, hz, hsz, hb⟩ := info_parts info_Loop
  have I := Lib.hid (And.intro hi (And.intro hz (And.intro hsz hb)))
  clear hi hz hsz hb hfit hw hcap
  have hq := fun W => Lib.run_eql_slice_nil (P := Tryd.prog) W 58 96 a n c 0 0 Tryd.underlying58
  rcases a with _ | ad
  · have h0 : l.length = 0 := by
      obtain ⟨a', c', he, _, _, h3⟩ := hs
      rcases Nat.eq_zero_or_pos l.length with h | h
      · exact h
      · obtain ⟨b, off, ha, _⟩ := h3 h
        injection he with e1 _ _
        rw [← e1] at ha
        cases ha
    have hl : l = [] := List.eq_nil_of_length_eq_zero h0
    have HL := Lib.hid hl
    clear hs hn h0 hl
    go_enter Tryd.func38, Tryd.ntmps38
    go_wp2_with fail
    go_ret
    refine ⟨none, 0, ?_, ?_, Below.refl _ _⟩
    · rw [HL.out]; rfl
    · rw [HL.out]; exact ⟨[], World.ownsRow_nil _ _ _ _, FlatR.nil_⟩
  · clear hs hn
    go_enter Tryd.func38, Tryd.ntmps38
    go_wp2_with (at_builtin
                 go_must (refine wpList_append_list rfl (.tmp 5) (.tmp 6) _ rfl w.heap.size w0.heap.size 96 j _ 2 16 Tryd.underlying58 I.out.1 I.out.2.1 I.out.2.2.1 I.out.2.2.2 rfl (by omega) (R := LoopIs) (l := []) (m := l) (.slice (some ⟨w.heap.size, 0, none⟩) 0 0) rfl (by exact Own1.empty rfl (Nat.le_refl _)) (some ad) n c rfl (by exact Hs.out.below (Hw.out.alloc Hw.out.size _)) n (by simp) LoopIs.one (by have := Hcap.out; simp; omega) (by simpa using hby) (by rw [World.size_alloc]; omega) ?_)
                 intro xa xc w4 hown hgrow
                 have H4 := Lib.hid (And.intro hown hgrow)
                 clear hown hgrow)
    go_ret
    obtain ⟨hown, hgrow⟩ := H4.out
    refine ⟨xa, xc, by rw [← Hn.out]; rfl, ?_, ((Below.refl _ _).alloc (Nat.le_refl _) _).grown hgrow (by rw [World.size_alloc]; omega) (fun g hg => Nat.le_of_eq (Option.some.inj hg))⟩
    rw [← Hn.out]
    simpa using hown

def whatC (k : Nat) : Int := match k with | 0 => 45 | 1 => 97 | 2 => 105 | 3 => 116 | 4 => 110 | _ => 112
set_option maxHeartbeats 4000000 in
theorem what_any (op : Int) (h1 : 1 ≤ op) (h2 : op ≤ 40) (w : World) : Calls Tryd.prog 35 #[.int .i64 op] w fun e w' => e = .returned (.int .u8 (whatC (hasN op))) ∧ Quiet w w' := by
  rcases (by omega : op = 1 ∨ op = 2 ∨ op = 3 ∨ op = 4 ∨ op = 5 ∨ op = 6 ∨ op = 7 ∨ op = 8 ∨ op = 9 ∨ op = 10 ∨ op = 11 ∨ op = 12 ∨ op = 13 ∨ op = 14 ∨ op = 15 ∨ op = 16 ∨ op = 17 ∨ op = 18 ∨ op = 19 ∨ op = 20 ∨ op = 21 ∨ op = 22 ∨ op = 23 ∨ op = 24 ∨ op = 25 ∨ op = 26 ∨ op = 27 ∨ op = 28 ∨ op = 29 ∨ op = 30 ∨ op = 31 ∨ op = 32 ∨ op = 33 ∨ op = 34 ∨ op = 35 ∨ op = 36 ∨ op = 37 ∨ op = 38 ∨ op = 39 ∨ op = 40) with rfl | rfl | rfl | rfl | rfl | rfl | rfl | rfl | rfl | rfl | rfl | rfl | rfl | rfl | rfl | rfl | rfl | rfl | rfl | rfl | rfl | rfl | rfl | rfl | rfl | rfl | rfl | rfl | rfl | rfl | rfl | rfl | rfl | rfl | rfl | rfl | rfl | rfl | rfl | rfl
  all_goals clear h1 h2
  all_goals go_enter Tryd.func35, Tryd.ntmps35
  all_goals go_wp2_with fail
  all_goals go_ret
  all_goals exact ⟨rfl, Quiet.refl _⟩
def needsN (op : Int) : Int := if op ≤ 9 ∨ op = 34 ∨ op = 39 then 0 else if 22 ≤ op ∧ op ≤ 28 then 2 else 1
set_option maxHeartbeats 4000000 in
theorem needs_any (op : Int) (h1 : 1 ≤ op) (h2 : op ≤ 40) (w : World) : Calls Tryd.prog 37 #[.int .i64 op] w fun e w' => e = .returned (.int .i64 (needsN op)) ∧ Quiet w w' := by
  rcases (by omega : op = 1 ∨ op = 2 ∨ op = 3 ∨ op = 4 ∨ op = 5 ∨ op = 6 ∨ op = 7 ∨ op = 8 ∨ op = 9 ∨ op = 10 ∨ op = 11 ∨ op = 12 ∨ op = 13 ∨ op = 14 ∨ op = 15 ∨ op = 16 ∨ op = 17 ∨ op = 18 ∨ op = 19 ∨ op = 20 ∨ op = 21 ∨ op = 22 ∨ op = 23 ∨ op = 24 ∨ op = 25 ∨ op = 26 ∨ op = 27 ∨ op = 28 ∨ op = 29 ∨ op = 30 ∨ op = 31 ∨ op = 32 ∨ op = 33 ∨ op = 34 ∨ op = 35 ∨ op = 36 ∨ op = 37 ∨ op = 38 ∨ op = 39 ∨ op = 40) with rfl | rfl | rfl | rfl | rfl | rfl | rfl | rfl | rfl | rfl | rfl | rfl | rfl | rfl | rfl | rfl | rfl | rfl | rfl | rfl | rfl | rfl | rfl | rfl | rfl | rfl | rfl | rfl | rfl | rfl | rfl | rfl | rfl | rfl | rfl | rfl | rfl | rfl | rfl | rfl
  all_goals clear h1 h2
  all_goals go_enter Tryd.func37, Tryd.ntmps37
  all_goals go_wp2_with fail
  all_goals go_ret
  all_goals exact ⟨rfl, Quiet.refl _⟩

end Go.Proofs.YtdkoafmgenbkbaaDoor
