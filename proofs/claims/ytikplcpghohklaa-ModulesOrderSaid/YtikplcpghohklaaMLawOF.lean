/- Any languages have just the row that the chapter says, or just its fault: 'topiarylaw24.ModulesOrder' returns true whatever the languages; no condition but the reach. -/
import Derived.Test.YtikplcpghohklaaMLawC
import Derived.Test.YtikplcpghohklaaTn2
import Derived.Test.YtikplcpghohklaaEqF
import Derived.Deep.RegionHeld3
import Derived.Test.YtikplcpghohklaaOpen
import Derived.Test.YtikplcpghohklaaRows
import Derived.ProofKit
import Derived.OpenShut
import Derived.ShutString
import Derived.ChangeOld
namespace Go.Proofs.Ytikplcpghohklaa
set_option linter.unusedSimpArgs false
set_option linter.unusedVariables false
open Go.RowKit

theorem Language.Is.shape {w : World} {B : Nat} (x : List Value) (d : Language) (h : Language.Is w B x d) : ∃ (e0 : ByteArray) (e1 : Int) (e2 : Option Addr) (en2 ec2 : Nat) (e3 : Option Addr) (en3 ec3 : Nat) (e4 : Option Addr) (en4 ec4 : Nat) (e5 : Option Addr) (en5 ec5 : Nat) (e6 : Option Addr) (en6 ec6 : Nat) (e7 : Option Addr) (en7 ec7 : Nat), x = [.string e0, .int .i64 e1, .slice e2 en2 ec2, .slice e3 en3 ec3, .slice e4 en4 ec4, .slice e5 en5 ec5, .slice e6 en6 ec6, .slice e7 en7 ec7] := by
  obtain ⟨v2, v3, v4, v5, v6, v7, rfl, h2, h3, h4, h5, h6, h7, _⟩ := h
  obtain ⟨_, _, _, rfl⟩ := h2.form'
  obtain ⟨_, _, _, rfl⟩ := h3.form'
  obtain ⟨_, _, _, rfl⟩ := h4.form'
  obtain ⟨_, _, _, rfl⟩ := h5.form'
  obtain ⟨_, _, _, rfl⟩ := h6.form'
  obtain ⟨_, _, _, rfl⟩ := h7.form'
  exact ⟨_, _, _, _, _, _, _, _, _, _, _, _, _, _, _, _, _, _, _, _, rfl⟩
theorem infoL_Language : (Try.prog.info? 31).map (fun i => (i.zero, i.size, i.bytes)) = some (some (.agg #[.string .empty, .int .i64 0, .slice none 0 0, .slice none 0 0, .slice none 0 0, .slice none 0 0, .slice none 0 0, .slice none 0 0]), 8, 168) := by kernel_rfl
section
variable {w w' : World} {base base' : Nat} {bad : TypeId → Bool} {x : List Value}
theorem Language.Own.mono {d : Language} (h : Language.Own w base x d) (hb : base' ≤ base) : Language.Own w base' x d := by
  obtain ⟨v1, v2, v3, v4, v5, v6, e, r1, r2, r3, r4, r5, r6, q⟩ := h
  exact ⟨v1, v2, v3, v4, v5, v6, e, r1.mono hb, (r2.mono hb).imp (fun _ _ r => r.mono hb), r3.mono hb, (r4.mono hb).imp (fun _ _ r => r.mono hb), (r5.mono hb).imp (fun _ _ r => r.mono hb), (r6.mono hb).imp (fun _ _ r => r.mono hb), q⟩
/-- no row of a definition is of such a type -/
def OkBad (bad : TypeId → Bool) : Prop := bad 9 = false ∧ bad 47 = false ∧ bad 97 = false ∧ bad 99 = false ∧ bad 101 = false ∧ bad 72 = false ∧ bad 51 = false ∧ bad 86 = false ∧ bad 3 = false ∧
  bad 55 = false ∧ bad 103 = false ∧ bad 58 = false ∧ bad 104 = false
theorem Language.Own.stays {d : Language} (h : Language.Own w base x d) (s : Stays w w' base bad) (hb : OkBad bad) : Language.Own w' base x d := by
  obtain ⟨b1, b2, b3, b4, b5, b6, b7, b8, b9, b10, b11, b12, b13⟩ := hb
  obtain ⟨v1, v2, v3, v4, v5, v6, e, r1, r2, r3, r4, r5, r6, q⟩ := h
  exact ⟨v1, v2, v3, v4, v5, v6, e, s _ _ _ _ _ _ b1 r1, s _ _ _ _ _ _ b2 (r2.imp fun _ _ r => r.stays s b3 b4 b5), s _ _ _ _ _ _ b6 r3, s _ _ _ _ _ _ b7 (r4.imp fun _ _ r => r.stays s b9 b8), s _ _ _ _ _ _ b10 (r5.imp fun _ _ r => r.stays s b11), s _ _ _ _ _ _ b12 (r6.imp fun _ _ r => r.stays s b13), q⟩
end
theorem okNone : OkBad (fun _ => false) := ⟨rfl, rfl, rfl, rfl, rfl, rfl, rfl, rfl, rfl, rfl, rfl, rfl, rfl⟩
theorem okLang : OkBad (fun e => e == 31) := ⟨rfl, rfl, rfl, rfl, rfl, rfl, rfl, rfl, rfl, rfl, rfl, rfl, rfl⟩
theorem Language.Own.one {w : World} {base : Nat} (x : List Value) (y : Language) (h : Language.Own w base x y) : ∀ u ∈ x, u.oneCell' = true := by
  obtain ⟨v1, v2, v3, v4, v5, v6, rfl, r1, r2, r3, r4, r5, r6, _⟩ := h
  obtain ⟨_, _, rfl⟩ := r1.form
  obtain ⟨_, _, rfl⟩ := r2.form
  obtain ⟨_, _, rfl⟩ := r3.form
  obtain ⟨_, _, rfl⟩ := r4.form
  obtain ⟨_, _, rfl⟩ := r5.form
  obtain ⟨_, _, rfl⟩ := r6.form
  intro u hu
  simp only [List.mem_cons, List.not_mem_nil, or_false] at hu
  rcases hu with rfl | rfl | rfl | rfl | rfl | rfl | rfl | rfl <;> rfl
/-- so many are copied -/
structure OwnLs (w : World) (wr : World) (v : Value) (l : List Language) : Prop where
  low : Below w.heap.size w wr
  own : Own1 wr w.heap.size 31 8 (Language.Own wr w.heap.size) v l
theorem OwnLs.below {w wr W : World} {v : Value} {l : List Language} (h : OwnLs w wr v l) (b : Below wr.heap.size wr W) : OwnLs w W v l :=
  ⟨h.low.trans (b.mono h.low.size), (h.own.below b (Nat.le_refl _)).imp (fun _ _ r => r.stays (Stays.of_below b (Nat.le_refl _)) okNone)⟩
theorem OwnLs.read {w wr : World} {v : Value} {l : List Language} (h : OwnLs w wr v l) : LsR wr wr.heap.size v l := (h.own.imp (fun _ _ r => r.is)).read (by omega)

set_option maxRecDepth 100000 in
set_option maxHeartbeats 8000000 in
theorem lawO_walk {ls : List Language} {v : Value} (w : World) (hs : LsR w w.heap.size v ls) (hfit : Fit ls.length 168) :
    Calls Try.prog 3 #[v] w fun e w' => e = .returned (.bool true) ∧ Below w.heap.size w w' := by
  obtain ⟨jI, hi, hz, hsz, hby⟩ := info_parts infoL_Language
  have I := Lib.hid (And.intro hi (And.intro hz (And.intro hsz hby)))
  clear hi hz hsz hby
  obtain ⟨l, x0, x1, x2, x3, hM, hR⟩ := order_ans ls
  have HG := Lib.hid (fun W (hW : Below w.heap.size w W) => great_any W w hs hW)
  have HR := Lib.hid (fun W (hW : Below w.heap.size w W) => (r_order W w hs hW).mono fun e w' h => hR W e w' h)
  have HM := Lib.hid (fun v' (W W0 : World) (h : LsR W0 W0.heap.size v' ls) (hW : Below W0.heap.size W0 W) => (m_Order W W0 h hW).mono fun e w' h => hM W e w' h)
  obtain ⟨a, c, rfl⟩ : ∃ a c, v = .slice a ls.length c := by obtain ⟨a, c, h, _⟩ := hs.form; exact ⟨a, c, h⟩
  have hcap := hs.caps
  have hn63 : ls.length ≤ 9223372036854775807 := by unfold maxLen at hcap; omega
  have Hs := Lib.hid hs
  have Hfit := Lib.hid hfit
  obtain ⟨n, hn⟩ : ∃ n, ls.length = n := ⟨_, rfl⟩
  rw [hn] at Hs Hfit hn63 HG HR hcap ⊢
  have Hcap := Lib.hid hcap
  have Hn := Lib.hid hn
  clear hM hR hs hfit hn hcap
  go_enter Try.func3, Try.ntmps3
  go_wp2_with (first | (go_at_call 5; refine (HG.out _ (Below.refl _ _)).mono ?_; rintro e w1 ⟨⟨b, rfl⟩, hb⟩; have L1 := Lib.hid hb; clear hb; cases b))
  rotate_left
  · go_ret
    exact ⟨rfl, L1.out⟩
  go_loopw [3, 4] (fun ov j wr => ∃ (k : Nat) (oa : Option Addr) (oc : Nat), k ≤ n ∧ j = .int .i64 (k : Int) ∧ ov = .slice oa k oc ∧ Hid (OwnLs w wr (.slice oa k oc) (ls.take k))) (fun _ j _ => n - (intOf j).toNat)
  case atStart => exact ⟨0, none, 0, Nat.zero_le _, rfl, rfl, Lib.hid ⟨L1.out, ⟨[], World.ownsRow_nil _ _ _ _, by rw [List.take_zero]; exact FlatR.nil_⟩⟩⟩
  case round =>
    obtain ⟨k, oa, oc, hk, rfl, rfl, hO⟩ := hrel
    have HO := hO
    by_cases hlt : k < n
    · obtain ⟨y, hd⟩ := get_some Hn.out hlt
      obtain ⟨b, off, x, rfl, hbB, hxl, hR, hx⟩ := (Hs.out.same_base hO.out.low).at_ hd
      have TC := Lib.hid (fun W hW => twin_any W wr (hR.keep (fun _ _ => rfl) hO.out.low.size) hW)
      obtain ⟨e0, e1, e2, en2, ec2, e3, en3, ec3, e4, en4, ec4, e5, en5, ec5, e6, en6, ec6, e7, en7, ec7, rfl⟩ := Language.Is.shape _ _ hR
      have h0 := hx 0 _ rfl
      have h1 := hx 1 _ rfl
      have h2 := hx 2 _ rfl
      have h3 := hx 3 _ rfl
      have h4 := hx 4 _ rfl
      have h5 := hx 5 _ rfl
      have h6 := hx 6 _ rfl
      have h7 := hx 7 _ rfl
      simp only [Nat.add_zero] at h0
      have Hd := Lib.hid hd
      have hlk : (ls.take k).length = k := by rw [List.length_take, Hn.out]; omega
      have hyk : ls.take k ++ [y] = ls.take (k + 1) := by rw [List.take_add_one, hd]; rfl
      have Hlk := Lib.hid hlk
      have Hyk := Lib.hid hyk
      clear hd hx hxl hR hO hlk hyk
      go_wp2_with fail
      with_reducible refine (TC.out _ (Below.refl _ _)).mono ?_
      rintro e wc ⟨x', rfl, hown, hb1⟩
      have hOc : OwnLs w wc (.slice oa k oc) (ls.take k) := HO.out.below hb1
      have hownc := hown.mono (base' := w.heap.size) HO.out.low.size
      obtain ⟨g1, g2, g3, g4, g5, g6, rfl, q1, q2, q3, q4, q5, q6, q7⟩ := hownc
      obtain ⟨ga1, gc1, rfl⟩ := q1.form
      obtain ⟨ga2, gc2, rfl⟩ := q2.form
      obtain ⟨ga3, gc3, rfl⟩ := q3.form
      obtain ⟨ga4, gc4, rfl⟩ := q4.form
      obtain ⟨ga5, gc5, rfl⟩ := q5.form
      obtain ⟨ga6, gc6, rfl⟩ := q6.form
      have hY : Language.Own wc w.heap.size [.string y.name, .int .i64 y.version, .slice ga1 y.uses.length gc1, .slice ga2 y.concepts.length gc2, .slice ga3 y.rules.length gc3, .slice ga4 y.equations.length gc4, .slice ga5 y.editors.length gc5, .slice ga6 y.templates.length gc6] y := ⟨_, _, _, _, _, _, rfl, q1, q2, q3, q4, q5, q6, q7⟩
      have HOc := Lib.hid hOc
      have HY := Lib.hid hY
      have hwz := hOc.low.size
      clear hOc hY q1 q2 q3 q4 q5 q6 q7 hown hb1
      go_wp2_with (at_builtin
                   go_must (refine wpList_append_list rfl (.tmp 18) (.tmp 24) _ rfl w.heap.size (wc.heap.size + 1) 31 jI _ 8 168 Try.underlying22 I.out.1 I.out.2.1 I.out.2.2.1 I.out.2.2.2 rfl (by omega) (R := Language.Own (wc.alloc (.cells #[.string y.name, .int .i64 y.version, .slice ga1 y.uses.length gc1, .slice ga2 y.concepts.length gc2, .slice ga3 y.rules.length gc3, .slice ga4 y.equations.length gc4, .slice ga5 y.editors.length gc5, .slice ga6 y.templates.length gc6] 31)) w.heap.size) (l := ls.take k) (m := [y]) (.slice oa k oc) rfl (by exact (HOc.out.own.alloc _).imp (fun _ _ r => r.stays (Stays.of_alloc _ _ _) okNone)) (some ⟨wc.heap.size, 0, none⟩) 1 1 rfl (by exact SlR.new1 rfl rfl (HY.out.stays (Stays.of_alloc _ _ _) okNone)) (k + 1) (by rw [Hlk.out]) Language.Own.one (by rw [Hlk.out]; have := Hcap.out; omega) (by rw [Hlk.out]; have := Hfit.out; unfold Fit at this; omega) (by simp; omega) ?_)
                   intro xa xc w4 hown hgrow
                   have hne : ∀ g, (Value.slice oa k oc).ownBlock = some g → w.heap.size ≤ g := fun g hg => (HOc.out.own.block g hg).1
                   have O4 : Hid (OwnLs w w4 (.slice xa (k + 1) xc) (ls.take (k + 1))) := Lib.hid ⟨(HOc.out.low.alloc hwz _).grown hgrow (by simp; omega) hne, by rw [← Hyk.out]; exact hown.imp (fun _ _ r => r.stays (Stays.of_grown (HOc.out.own.alloc _) hgrow) okLang)⟩
                   clear hown hgrow hne)
      go_roundw
      case rel => exact ⟨k + 1, xa, xc, by omega, by go_num, rfl, O4⟩
      case measure => simp [intOf]; omega
    · obtain rfl : n = k := by omega
      have O0 : Hid (OwnLs w wr (.slice oa n oc) ls) := Lib.hid (by have h := HO.out; rw [List.take_of_length_le (by rw [Hn.out]; exact Nat.le_refl _)] at h; exact h)
      have Lr : Hid (Below w.heap.size w wr) := Lib.hid O0.out.low
      clear HO hO hlt
      go_wp2_with (first
        | (go_at_call 7; refine (HM.out _ _ wr O0.out.read (Below.refl _ _)).mono ?_; rintro e w2 ⟨⟨pa, pn, pc, rfl, hS⟩, hb⟩; have S2 := Lib.hid hS; have Br2 := Lib.hid hb; have L2 : Hid (Below w.heap.size w w2) := Lib.hid (Lr.out.trans (hb.mono Lr.out.size)); clear hb hS)
        | (go_at_call 8; refine (HR.out _ (L2.out.alloc L2.out.size _)).mono ?_; rintro e w3 ⟨⟨a', n', c', rfl, hS⟩, hb⟩; have S3 := Lib.hid hS; have hb2 : Below (w2.heap.size + 1) (w2.alloc (.cells #[.int .i64 x0, .int .i64 x1, .int .i64 x2, .int .i64 x3] 36)) w3 := hb.mono (by simp); have B6 : Blk w3 w2.heap.size 36 #[.int .i64 x0, .int .i64 x1, .int .i64 x2, .int .i64 x3] := (Blk.new w2 _ _).below hb2 (by omega); have y0 : w3.cell? ⟨w2.heap.size, 0, none⟩ = some (.int .i64 x0) := B6.cell rfl; have y1 : w3.cell? ⟨w2.heap.size, 1, none⟩ = some (.int .i64 x1) := B6.cell rfl; have y2 : w3.cell? ⟨w2.heap.size, 2, none⟩ = some (.int .i64 x2) := B6.cell rfl; have y3 : w3.cell? ⟨w2.heap.size, 3, none⟩ = some (.int .i64 x3) := B6.cell rfl; have l6 := B6.lt; have B23 : Hid (Below w2.heap.size w2 w3) := Lib.hid (((Below.refl _ _).alloc (Nat.le_refl _) _).trans (hb2.mono (by omega))); have O3 : Hid (OwnLs w w3 (.slice oa n oc) ls) := Lib.hid (O0.out.below (Br2.out.trans (B23.out.mono Br2.out.size))); clear hb hb2 hS B6)
        | (go_at_call 9; have hB := (Below.refl w3.heap.size w3).alloc (Nat.le_refl _) (.cells #[.int .i64 x0, .int .i64 x1, .int .i64 x2, .int .i64 x3] 36); refine (r_ints _ w3 ((S2.out.below B23.out).more B23.out.size) S3.out hB).mono ?_; rintro e w4 ⟨rfl, q4⟩; have O4 : Hid (OwnLs w w4 (.slice oa n oc) ls) := Lib.hid (O3.out.below (hB.trans (q4.below _))); clear q4 hB))
      go_loopw [9] (fun j wr => ∃ k : Nat, k ≤ n ∧ j = .int .i64 (k : Int) ∧ Hid (OwnLs w wr (.slice oa n oc) ls)) (fun j _ => n - (intOf j).toNat)
      case atStart => exact ⟨0, Nat.zero_le _, rfl, O4⟩
      case round =>
        clear y0 y1 y2 y3 l6
        obtain ⟨k, hk, rfl, hO⟩ := hrel
        by_cases hlt : k < n
        · obtain ⟨y, hd⟩ := get_some Hn.out hlt
          obtain ⟨b, off, x, rfl, hbB, hxl, hR, hx⟩ := hO.out.read.at_ hd
          obtain ⟨b', off', x', rfl, hbB', hxl', hR', hx'⟩ := (Hs.out.same_base hO.out.low).at_ hd
          have hbW' : b' < wr.heap.size := Nat.lt_of_lt_of_le hbB' hO.out.low.size
          have HC := Lib.hid (fun W hW => (ref_same W wr hR (hR'.keep (fun _ _ => rfl) hO.out.low.size) hW).mono (fun e w' h => (show e = .returned (.bool true) ∧ Below W.heap.size W w' from ⟨by rw [h.1]; simp, h.2⟩)))
          obtain ⟨e0, e1, e2, en2, ec2, e3, en3, ec3, e4, en4, ec4, e5, en5, ec5, e6, en6, ec6, e7, en7, ec7, rfl⟩ := Language.Is.shape _ _ hR
          obtain ⟨d0, d1, d2, dn2, dc2, d3, dn3, dc3, d4, dn4, dc4, d5, dn5, dc5, d6, dn6, dc6, d7, dn7, dc7, rfl⟩ := Language.Is.shape _ _ hR'
          have h0 := hx 0 _ rfl
          have h1 := hx 1 _ rfl
          have h2 := hx 2 _ rfl
          have h3 := hx 3 _ rfl
          have h4 := hx 4 _ rfl
          have h5 := hx 5 _ rfl
          have h6 := hx 6 _ rfl
          have h7 := hx 7 _ rfl
          have g0 := hx' 0 _ rfl
          have g1 := hx' 1 _ rfl
          have g2 := hx' 2 _ rfl
          have g3 := hx' 3 _ rfl
          have g4 := hx' 4 _ rfl
          have g5 := hx' 5 _ rfl
          have g6 := hx' 6 _ rfl
          have g7 := hx' 7 _ rfl
          simp only [Nat.add_zero] at h0 g0
          have HO := hO
          have tok : True := trivial
          clear hd hx hx' hxl hxl' hR hR' hO
          go_wp2_with fail
          go_region_held3 (fun W => W.cell? ⟨b, off + k * 8, none⟩ = some (.string e0) ∧ W.cell? ⟨b, off + k * 8 + 1, none⟩ = some (.int .i64 e1) ∧ W.cell? ⟨b, off + k * 8 + 2, none⟩ = some (.slice e2 en2 ec2) ∧ W.cell? ⟨b, off + k * 8 + 3, none⟩ = some (.slice e3 en3 ec3) ∧ W.cell? ⟨b, off + k * 8 + 4, none⟩ = some (.slice e4 en4 ec4) ∧ W.cell? ⟨b, off + k * 8 + 5, none⟩ = some (.slice e5 en5 ec5) ∧ W.cell? ⟨b, off + k * 8 + 6, none⟩ = some (.slice e6 en6 ec6) ∧ W.cell? ⟨b, off + k * 8 + 7, none⟩ = some (.slice e7 en7 ec7) ∧ W.cell? ⟨b', off' + k * 8, none⟩ = some (.string d0) ∧ W.cell? ⟨b', off' + k * 8 + 1, none⟩ = some (.int .i64 d1) ∧ W.cell? ⟨b', off' + k * 8 + 2, none⟩ = some (.slice d2 dn2 dc2) ∧ W.cell? ⟨b', off' + k * 8 + 3, none⟩ = some (.slice d3 dn3 dc3) ∧ W.cell? ⟨b', off' + k * 8 + 4, none⟩ = some (.slice d4 dn4 dc4) ∧ W.cell? ⟨b', off' + k * 8 + 5, none⟩ = some (.slice d5 dn5 dc5) ∧ W.cell? ⟨b', off' + k * 8 + 6, none⟩ = some (.slice d6 dn6 dc6) ∧ W.cell? ⟨b', off' + k * 8 + 7, none⟩ = some (.slice d7 dn7 dc7))
            (first
              | go_keep
              | (have _k := KT; exact KT)
              | fail)
            (first
              | (go_at_call 10
                 have _t := tok
                 refine (HC.out _ (by first | exact Below.refl _ _ | exact Below.drew (Below.refl _ _) | exact below_drewN (Below.refl _ _) _)).mono ?_
                 rintro e w9 ⟨rfl, hb⟩
                 have hb9 : Below wr.heap.size wr w9 := ⟨hb.os, hb.tape, hb.output, hb.size, hb.block⟩
                 have KT : w9.cell? ⟨b, off + k * 8, none⟩ = some (.string e0) ∧ w9.cell? ⟨b, off + k * 8 + 1, none⟩ = some (.int .i64 e1) ∧ w9.cell? ⟨b, off + k * 8 + 2, none⟩ = some (.slice e2 en2 ec2) ∧ w9.cell? ⟨b, off + k * 8 + 3, none⟩ = some (.slice e3 en3 ec3) ∧ w9.cell? ⟨b, off + k * 8 + 4, none⟩ = some (.slice e4 en4 ec4) ∧ w9.cell? ⟨b, off + k * 8 + 5, none⟩ = some (.slice e5 en5 ec5) ∧ w9.cell? ⟨b, off + k * 8 + 6, none⟩ = some (.slice e6 en6 ec6) ∧ w9.cell? ⟨b, off + k * 8 + 7, none⟩ = some (.slice e7 en7 ec7) ∧ w9.cell? ⟨b', off' + k * 8, none⟩ = some (.string d0) ∧ w9.cell? ⟨b', off' + k * 8 + 1, none⟩ = some (.int .i64 d1) ∧ w9.cell? ⟨b', off' + k * 8 + 2, none⟩ = some (.slice d2 dn2 dc2) ∧ w9.cell? ⟨b', off' + k * 8 + 3, none⟩ = some (.slice d3 dn3 dc3) ∧ w9.cell? ⟨b', off' + k * 8 + 4, none⟩ = some (.slice d4 dn4 dc4) ∧ w9.cell? ⟨b', off' + k * 8 + 5, none⟩ = some (.slice d5 dn5 dc5) ∧ w9.cell? ⟨b', off' + k * 8 + 6, none⟩ = some (.slice d6 dn6 dc6) ∧ w9.cell? ⟨b', off' + k * 8 + 7, none⟩ = some (.slice d7 dn7 dc7) := ⟨(hb9.cell (p := ⟨b, off + k * 8, none⟩) hbB).trans h0, (hb9.cell (p := ⟨b, off + k * 8 + 1, none⟩) hbB).trans h1, (hb9.cell (p := ⟨b, off + k * 8 + 2, none⟩) hbB).trans h2, (hb9.cell (p := ⟨b, off + k * 8 + 3, none⟩) hbB).trans h3, (hb9.cell (p := ⟨b, off + k * 8 + 4, none⟩) hbB).trans h4, (hb9.cell (p := ⟨b, off + k * 8 + 5, none⟩) hbB).trans h5, (hb9.cell (p := ⟨b, off + k * 8 + 6, none⟩) hbB).trans h6, (hb9.cell (p := ⟨b, off + k * 8 + 7, none⟩) hbB).trans h7, (hb9.cell (p := ⟨b', off' + k * 8, none⟩) hbW').trans g0, (hb9.cell (p := ⟨b', off' + k * 8 + 1, none⟩) hbW').trans g1, (hb9.cell (p := ⟨b', off' + k * 8 + 2, none⟩) hbW').trans g2, (hb9.cell (p := ⟨b', off' + k * 8 + 3, none⟩) hbW').trans g3, (hb9.cell (p := ⟨b', off' + k * 8 + 4, none⟩) hbW').trans g4, (hb9.cell (p := ⟨b', off' + k * 8 + 5, none⟩) hbW').trans g5, (hb9.cell (p := ⟨b', off' + k * 8 + 6, none⟩) hbW').trans g6, (hb9.cell (p := ⟨b', off' + k * 8 + 7, none⟩) hbW').trans g7⟩
                 have O9 : Hid (OwnLs w w9 (.slice (some ⟨b, off, none⟩) n oc) ls) := Lib.hid (HO.out.below hb9)
                 clear tok _t hb hb9)
              | fail)
          all_goals (
            go_wp2_with fail
            go_roundw
            case rel => exact ⟨k + 1, by omega, by go_num, O9⟩
            case measure => simp [intOf]; omega)
        · have hge : n ≤ k := by omega
          have LE := Lib.hid hO.out.low
          clear hlt hO
          go_wp2_with fail
          go_ret
          exact ⟨rfl, LE.out⟩

open Go.ChangeShapes Go.WideShapes Go.ChangeAt

theorem own : ownKnob Try.prog.godebug = none := by kernel_rfl
theorem laidOut : laidOutB Try.prog = true := by kernel_rfl

set_option maxRecDepth 100000 in
theorem lifted (os : Os) (started : os.Started) (H : Type) (enc : TypeId × Value → H) :
    ReturnsInHanded {} Try.checked os 3 .any (Rows.modulesOrderSpec.pre6 enc Try.prog Try.f3 Rows.modulesOrderRow.domain false) (Rows.modulesOrderSpec.post enc Try.prog Try.f3 false true false false) := by
  refine returnsInHanded_of_change_sized (C := Try.checked) own started (by kernel_rfl) Try.func3
    (ChangeSpec.witness6 (enc := enc) (C := Try.checked) false ⟨#[], #[.slice none 0 0], []⟩ 8 (by kernel_rfl) (by kernel_rfl) (by kernel_rfl) (by kernel_rfl)) ?_
  intro W base args ds gs before hval0 hW hcnd hwt _
  have hval : ∀ (j : Nat) t v, Try.f3.params[j]? = some t → args[j]? = some v → Value.okWide Try.prog W .any base t v := hval0
  have hW' := hW
  obtain ⟨p, q, hA0, hV, rfl, hfz, hnd⟩ := hW
  have hA : DataW.TrodAll enc Try.prog W 0 (fun _ => true) true Try.f3.params.toList args.toList ds p := hA0
  rw [Try.params3] at hA hval hwt
  obtain ⟨v0, vs0, d0, ds0, p0, q0, hargs, rfl, rfl, h0, r0⟩ := trodAll_cons hA
  obtain ⟨rfl, rfl, rfl⟩ := trodAll_nil r0
  obtain rfl : args = #[v0] := by cases args; simp_all
  obtain ⟨rfl, rfl⟩ := trodVars_none hV
  obtain ⟨sa0, sn0, sc0, rfl⟩ := okWide_slice Try.underlying22 (hval 0 22 v0 rfl rfl)
  have k0 := h0
  have lt0 : ∀ x ∈ p0, x.block < W.heap.size := by obtain ⟨m, hm⟩ := k0; exact DataW.trod_lt m _ _ _ hm
  have L0 : Light Try.prog 22 d0 := fun n hn => by simpa using List.all_eq_true.1 hwt n (DataW.weights_mem_each (j := 0) rfl rfl n hn)
  obtain ⟨l0, X0, F0⟩ : ∃ l : List Language, SlR W W.heap.size 8 (Language.Is W W.heap.size) (.slice sa0 sn0 sc0) l ∧ Fit l.length 168 := by
    obtain ⟨fuel, hf⟩ := h0
    exact open_SlR_light (Language.Is W W.heap.size) Try.underlying22 (size := 8) (bytes := 168) (by kernel_rfl) (by decide) (by kernel_rfl) hf L0 (fun n x y _ h hl => open_Language h hl)
  clear hA0 hval0
  have hwalk := lawO_walk W X0 F0
  refine hwalk.mono fun e W' ⟨he, bel⟩ => ?_
  subst he
  exact ⟨_, rfl, _, _, _, [], _, [], hW', trodAll_mk1 (shut_bool Try.underlying4 _), (trodAll_cons_mk (Below.trod laidOut (by kernel_rfl) (of_decide_eq_true (by kernel_rfl)) k0 bel lt0) trodAll_mk0), rfl, bel.frame _, fun h => by cases h⟩

theorem over : Rows.modulesOrderRow.holds Try.pinned (OpenSpec.ofChange Rows.modulesOrderSpec) :=
  OpenClaim.holds_of_wide 3 Try.f3 rfl rfl rfl rfl rfl rfl rfl ⟨rfl, rfl, rfl, rfl, rfl⟩ rfl rfl rfl rfl rfl (by kernel_rfl) Try.func3 (by kernel_rfl)
    (of_decide_eq_true (by kernel_rfl)) (by unfold Func.isWrapper; first | (rw [if_pos (by decide +kernel)]; kernel_rfl) | (rw [if_neg (by decide +kernel)]; exact ⟨rfl, rfl⟩))
    (fun os started H enc _ => lifted os started H enc)

theorem modulesOrder_holds : Rows.ModulesOrderSaid := over
#print axioms modulesOrder_holds
end Go.Proofs.Ytikplcpghohklaa
