/- Two rows of tokens, compared: the reference's Alike. -/
import Derived.Test.YtjjppnfdnjdhlaaDoorRScan
namespace Go.Proofs.YtjjppnfdnjdhlaaDoor
open Go.RowKit

def alikeP (at_ : Bool) (a b : Tok) : Bool := decide (a.kind = b.kind) && (decide (a.text = b.text) && (decide (a.num = b.num) && (!at_ || decide (a.place = b.place))))
theorem alikeP_true (a b : Tok) : alikeP true a b = decide (a = b) := by
  obtain ⟨a1, a2, a3, a4⟩ := a
  obtain ⟨b1, b2, b3, b4⟩ := b
  simp [alikeP]
theorem eqBy_tok (l m : List Tok) : eqBy (alikeP true) l m = decide (l = m) := by
  rw [← eqBy_eq]
  congr 1
  funext a b
  exact alikeP_true a b


set_option maxRecDepth 100000 in
set_option maxHeartbeats 8000000 in
theorem alike_at {l m : List Tok} {v v' : Value} (w w0 : World) (hs : SlR w0 w0.heap.size 4 Tok.Is v l) (ht : SlR w0 w0.heap.size 4 Tok.Is v' m) (hw : Below w0.heap.size w0 w) :
    Calls Tryd.prog 11 #[v, v', .bool true] w fun e w' => e = .returned (.bool (eqBy (alikeP true) l m)) ∧ Quiet w w' := by
  obtain ⟨a, c, rfl⟩ : ∃ a c, v = .slice a l.length c := by obtain ⟨a, c, h, _⟩ := hs.form; exact ⟨a, c, h⟩
  obtain ⟨a', c', rfl⟩ : ∃ a c, v' = .slice a m.length c := by obtain ⟨a, c, h, _⟩ := ht.form; exact ⟨a, c, h⟩
  have hn : l.length ≤ 9223372036854775807 := by have := hs.caps; unfold maxLen at this; omega
  by_cases hl : l.length = m.length
  · obtain ⟨n, hlen⟩ : ∃ n, l.length = n := ⟨_, rfl⟩
    rw [← hl] at ht ⊢
    rw [hlen] at hs ht hn ⊢
    have Hlen := Lib.hid hlen
    have Hl := Lib.hid hl
    have Hs := Lib.hid hs
    have Ht := Lib.hid ht
    have Hw := Lib.hid hw
    clear hs ht hlen hw hl
    go_enter Tryd.func11, Tryd.ntmps11
    go_wp2_with fail
    go_loopw [7] (fun j wr => ∃ k : Nat, k ≤ n ∧ j = .int .i64 k ∧ Quiet w wr ∧ Hid (∀ i y z, i < k → l[i]? = some y → m[i]? = some z → alikeP true y z = true)) (fun j _ => n - (intOf j).toNat)
    case atStart => exact ⟨0, Nat.zero_le _, rfl, Quiet.refl _, fun i d _ hi => by omega⟩
    case round =>
      obtain ⟨k, hk, rfl, hq, hf⟩ := hrel
      have c1 : (0 : Int) ≤ (k : Int) := Int.natCast_nonneg _
      have hb := hq.below w.heap.size
      by_cases hlt : k < n
      · obtain ⟨y, hd⟩ := get_some Hlen.out hlt
        obtain ⟨z, he⟩ := get_some (Hl.out.symm.trans Hlen.out) hlt
        have hw1 := Hw.out.trans (hb.mono Hw.out.size)
        obtain ⟨b, off, x, rfl, hbB, hxl, ⟨rfl, hyb, _⟩, hx⟩ := (Hs.out.below hw1).at_ hd
        obtain ⟨b', off', x', rfl, hbB', hxl', ⟨rfl, hzb, _⟩, hx'⟩ := (Ht.out.below hw1).at_ he
        have h0 := hx 0 _ rfl
        have h1 := hx 1 _ rfl
        have h2 := hx 2 _ rfl
        have h3 := hx 3 _ rfl
        have g0 := hx' 0 _ rfl
        have g1 := hx' 1 _ rfl
        have g2 := hx' 2 _ rfl
        have g3 := hx' 3 _ rfl
        simp only [Nat.add_zero] at h0 g0
        have Hd := Lib.hid hd
        have He := Lib.hid he
        obtain ⟨yk, yt, yn, yp⟩ := y
        obtain ⟨zk, zt, zn, zp⟩ := z
        dsimp only at h0 h1 h2 h3 g0 g1 g2 g3 hyb hzb
        clear hd he hx hxl hx' hxl' hw1
        by_cases e0 : yk = zk
        rotate_left
        · have hp : alikeP true ⟨yk, yt, yn, yp⟩ ⟨zk, zt, zn, zp⟩ = false := by simp [alikeP, e0]
          have HP := Lib.hid hp
          have n0 : (yk == zk) = false := by simpa using e0
          have m0 : (yk != zk) = true := by simpa using e0
          clear hp e0 hyb hzb
          go_wp2_with fail
          go_quiet (fail)
          go_wp2_with fail
          go_ret
          exact ⟨by rw [eqBy_no _ l m k _ _ Hd.out He.out HP.out]; rfl, hq.drewN _⟩
        subst e0
        by_cases e1 : yt = zt
        rotate_left
        · have hp : alikeP true ⟨yk, yt, yn, yp⟩ ⟨yk, zt, zn, zp⟩ = false := by simp [alikeP, e1]
          have HP := Lib.hid hp
          have n1 : ((txt yt).toList == (txt zt).toList) = false := by rw [beq_eq_false_iff_ne]; exact fun h => e1 (by have := (toList_inj _ _).1 h; rw [← bs_txt hyb, this, bs_txt hzb])
          have m1 : ((txt yt).toList != (txt zt).toList) = true := by rw [bne, n1]; rfl
          have o1 : ¬ (txt yt).toList = (txt zt).toList := by simpa using n1
          clear hp e1 hyb hzb
          go_wp2_with fail
          go_quiet (fail)
          go_wp2_with fail
          go_ret
          exact ⟨by rw [eqBy_no _ l m k _ _ Hd.out He.out HP.out]; rfl, hq.drewN _⟩
        subst e1
        by_cases e2 : yn = zn
        rotate_left
        · have hp : alikeP true ⟨yk, yt, yn, yp⟩ ⟨yk, yt, zn, zp⟩ = false := by simp [alikeP, e2]
          have HP := Lib.hid hp
          have n2 : (yn == zn) = false := by simpa using e2
          have m2 : (yn != zn) = true := by simpa using e2
          clear hp e2 hyb hzb
          go_wp2_with fail
          go_quiet (fail)
          go_wp2_with fail
          go_ret
          exact ⟨by rw [eqBy_no _ l m k _ _ Hd.out He.out HP.out]; rfl, hq.drewN _⟩
        subst e2
        by_cases e3 : yp = zp
        rotate_left
        · have hp : alikeP true ⟨yk, yt, yn, yp⟩ ⟨yk, yt, yn, zp⟩ = false := by simp [alikeP, e3]
          have HP := Lib.hid hp
          have n3 : (yp == zp) = false := by simpa using e3
          have m3 : (yp != zp) = true := by simpa using e3
          clear hp e3 hyb hzb
          go_wp2_with fail
          go_quiet (fail)
          go_wp2_with fail
          go_ret
          exact ⟨by rw [eqBy_no _ l m k _ _ Hd.out He.out HP.out]; rfl, hq.drewN _⟩
        subst e3
        have hp : alikeP true ⟨yk, yt, yn, yp⟩ ⟨yk, yt, yn, yp⟩ = true := by simp [alikeP]
        have HP := Lib.hid hp
        clear hp hyb hzb
        go_wp2_with fail
        go_quiet (fail)
        go_wp2_with fail
        go_roundw
        case rel => exact ⟨k + 1, by omega, by go_num, hq.drewN _, so_far Hd.out He.out HP.out hf.out⟩
        case measure => simp [intOf]; omega
      · have hge : n ≤ k := by omega
        have hdec : decide (k < n) = false := by simp; omega
        clear hlt
        go_wp2_with fail
        go_ret
        exact ⟨by rw [eqBy_yes _ l m Hl.out (fun i y z hi => hf.out i y z (by have := Hlen.out; omega))]; rfl, hq⟩
  · have hne : ((l.length : Int) != (m.length : Int)) = true := by rw [bne_iff_ne]; omega
    have Hl := Lib.hid hl
    clear hl hs ht hw
    go_enter Tryd.func11, Tryd.ntmps11
    go_wp2_with fail
    go_ret
    exact ⟨by rw [eqBy_len _ l m Hl.out]; rfl, Quiet.refl _⟩
end Go.Proofs.YtjjppnfdnjdhlaaDoor
