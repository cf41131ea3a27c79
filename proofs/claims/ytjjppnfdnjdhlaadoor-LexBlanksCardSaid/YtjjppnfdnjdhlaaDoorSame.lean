/- Two tokens, two rows of tokens, alike but for their places: the law's own functions. -/
import Derived.Test.YtjjppnfdnjdhlaaDoorAw
import Derived.Deep.RegionHeld3
namespace Go.Proofs.YtjjppnfdnjdhlaaDoor
open Go.RowKit

set_option maxRecDepth 100000 in
theorem alike0_any (y z : Tok) (hyb : Bytes y.text) (hzb : Bytes z.text) (w : World) : Calls Tryd.prog 36 #[.agg #[.int .i64 y.kind, .string (txt y.text), .int .i64 y.num, .int .i64 y.place], .agg #[.int .i64 z.kind, .string (txt z.text), .int .i64 z.num, .int .i64 z.place]] w fun e w' => e = .returned (.bool (alikeP false y z)) ∧ Below w.heap.size w w' := by
  obtain ⟨yk, yt, yn, yp⟩ := y
  obtain ⟨zk, zt, zn, zp⟩ := z
  dsimp only at hyb hzb ⊢
  by_cases e0 : yk = zk
  rotate_left
  · have hp : alikeP false ⟨yk, yt, yn, yp⟩ ⟨zk, zt, zn, zp⟩ = false := by simp [alikeP, e0]
    rw [hp]
    have n0 : (yk == zk) = false := by simpa using e0
    clear hp e0 hyb hzb
    go_enter Tryd.func36, Tryd.ntmps36
    go_wp2_with fail
    go_ret
    exact ⟨rfl, ((Below.refl _ _).alloc (Nat.le_refl _) _).alloc (below2 (Nat.le_refl _)) _⟩
  subst e0
  by_cases e1 : yt = zt
  rotate_left
  · have hp : alikeP false ⟨yk, yt, yn, yp⟩ ⟨yk, zt, zn, zp⟩ = false := by simp [alikeP, e1]
    rw [hp]
    have n1 : ((txt yt).toList == (txt zt).toList) = false := by rw [beq_eq_false_iff_ne]; exact fun h => e1 (by have := (toList_inj _ _).1 h; rw [← bs_txt hyb, this, bs_txt hzb])
    have o1 : ¬ (txt yt).toList = (txt zt).toList := by simpa using n1
    clear hp e1 hyb hzb
    go_enter Tryd.func36, Tryd.ntmps36
    go_wp2_with fail
    go_ret
    exact ⟨rfl, ((Below.refl _ _).alloc (Nat.le_refl _) _).alloc (below2 (Nat.le_refl _)) _⟩
  subst e1
  by_cases e2 : yn = zn
  rotate_left
  · have hp : alikeP false ⟨yk, yt, yn, yp⟩ ⟨yk, yt, zn, zp⟩ = false := by simp [alikeP, e2]
    rw [hp]
    have n2 : (yn == zn) = false := by simpa using e2
    clear hp e2 hyb hzb
    go_enter Tryd.func36, Tryd.ntmps36
    go_wp2_with fail
    go_ret
    exact ⟨rfl, ((Below.refl _ _).alloc (Nat.le_refl _) _).alloc (below2 (Nat.le_refl _)) _⟩
  subst e2
  have hp : alikeP false ⟨yk, yt, yn, yp⟩ ⟨yk, yt, yn, zp⟩ = true := by simp [alikeP]
  rw [hp]
  clear hp hyb hzb
  go_enter Tryd.func36, Tryd.ntmps36
  go_wp2_with fail
  go_ret
  exact ⟨rfl, ((Below.refl _ _).alloc (Nat.le_refl _) _).alloc (below2 (Nat.le_refl _)) _⟩


set_option maxRecDepth 100000 in
set_option maxHeartbeats 8000000 in
theorem same_any {l m : List Tok} {v v' : Value} (w w0 : World) (hs : SlR w0 w0.heap.size 4 Tok.Is v l) (ht : SlR w0 w0.heap.size 4 Tok.Is v' m) (hw : Below w0.heap.size w0 w) :
    Calls Tryd.prog 15 #[v, v'] w fun e w' => e = .returned (.bool (eqBy (alikeP false) l m)) ∧ Below w.heap.size w w' := by
  obtain ⟨a, c, rfl⟩ : ∃ a c, v = .slice a l.length c := by obtain ⟨a, c, h, _⟩ := hs.form; exact ⟨a, c, h⟩
  obtain ⟨a', c', rfl⟩ : ∃ a c, v' = .slice a m.length c := by obtain ⟨a, c, h, _⟩ := ht.form; exact ⟨a, c, h⟩
  have hn : l.length ≤ 9223372036854775807 := by have := hs.caps; unfold maxLen at this; omega
  by_cases hl : l.length = m.length
  · obtain ⟨n, hlen⟩ : ∃ n, l.length = n := ⟨_, rfl⟩
    rw [← hl] at ht ⊢
    rw [hlen] at hs ht hn ⊢
    have Hlen := Lib.hid hlen
    have Hl := Lib.hid hl
    have Hs := Lib.hid hs
    have Ht := Lib.hid ht
    have Hw := Lib.hid hw
    clear hs ht hlen hw hl
    go_enter Tryd.func15, Tryd.ntmps15
    go_wp2_with fail
    go_loopw [5] (fun j wr => ∃ k : Nat, k ≤ n ∧ j = .int .i64 k ∧ Hid (Below w.heap.size w wr) ∧ Hid (∀ i y z, i < k → l[i]? = some y → m[i]? = some z → alikeP false y z = true)) (fun j _ => n - (intOf j).toNat)
    case atStart => exact ⟨0, Nat.zero_le _, rfl, Below.refl _ _, fun i d _ hi => by omega⟩
    case round =>
      obtain ⟨k, hk, rfl, hb, hf⟩ := hrel
      have c1 : (0 : Int) ≤ (k : Int) := Int.natCast_nonneg _
      have hbz := hb.out.size
      by_cases hlt : k < n
      · obtain ⟨y, hd⟩ := get_some Hlen.out hlt
        obtain ⟨z, he⟩ := get_some (Hl.out.symm.trans Hlen.out) hlt
        have hw1 := Hw.out.trans (hb.out.mono Hw.out.size)
        obtain ⟨b, off, x, rfl, hbB, hxl, ⟨rfl, hyb, _⟩, hx⟩ := (Hs.out.below hw1).at_ hd
        obtain ⟨b', off', x', rfl, hbB', hxl', ⟨rfl, hzb, _⟩, hx'⟩ := (Ht.out.below hw1).at_ he
        have h0 := hx 0 _ rfl
        have h1 := hx 1 _ rfl
        have h2 := hx 2 _ rfl
        have h3 := hx 3 _ rfl
        have g0 := hx' 0 _ rfl
        have g1 := hx' 1 _ rfl
        have g2 := hx' 2 _ rfl
        have g3 := hx' 3 _ rfl
        simp only [Nat.add_zero] at h0 g0
        have Hd := Lib.hid hd
        have He := Lib.hid he
        obtain ⟨p, hp⟩ : ∃ p, alikeP false y z = p := ⟨_, rfl⟩
        have AL := Lib.hid (fun W => alike0_any y z hyb hzb W)
        rw [hp] at AL
        have HP := Lib.hid hp
        clear hd he hx hxl hx' hxl' hw1 hp hyb hzb
        cases p with
        | true =>
          go_wp2_with fail
          go_region_with (go_at_call 36; refine (AL.out _).mono ?_; rintro e w1 ⟨rfl, b1⟩; have B1 : Hid (Below w.heap.size w w1) := Lib.hid ((below_drewN hb.out _).trans (b1.mono (by exact hbz))); clear b1)
          all_goals go_wp2_with fail
          all_goals
            go_roundw
            case rel => exact ⟨k + 1, by omega, by go_num, B1.out, so_far Hd.out He.out HP.out hf.out⟩
            case measure => simp [intOf]; omega
        | false =>
          go_wp2_with fail
          go_region_with (go_at_call 36; refine (AL.out _).mono ?_; rintro e w1 ⟨rfl, b1⟩; have B1 : Hid (Below w.heap.size w w1) := Lib.hid ((below_drewN hb.out _).trans (b1.mono (by exact hbz))); clear b1)
          all_goals go_wp2_with fail
          all_goals
            go_ret
            exact ⟨by rw [eqBy_no _ l m k _ _ Hd.out He.out HP.out]; rfl, B1.out⟩
      · have hge : n ≤ k := by omega
        have hdec : decide (k < n) = false := by simp; omega
        clear hlt
        go_wp2_with fail
        go_ret
        exact ⟨by rw [eqBy_yes _ l m Hl.out (fun i y z hi => hf.out i y z (by have := Hlen.out; omega))]; rfl, hb.out⟩
  · have hne : ((l.length : Int) != (m.length : Int)) = true := by rw [bne_iff_ne]; omega
    have Hl := Lib.hid hl
    clear hl hs ht hw
    go_enter Tryd.func15, Tryd.ntmps15
    go_wp2_with fail
    go_ret
    exact ⟨by rw [eqBy_len _ l m Hl.out]; rfl, Below.refl _ _⟩
end Go.Proofs.YtjjppnfdnjdhlaaDoor
