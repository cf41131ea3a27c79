/- The law's walk: 'topiarylaw08.ExprParts' returns true whatever the nodes and the numbers; the variables hold what the texts lay. -/
import Derived.Test.YtlenenfgedgmhaaDoorRt4
import Derived.Test.YtlenenfgedgmhaaDoorAwk
import Derived.Test.YtlenenfgedgmhaaDoorSameN
import Derived.Test.YtlenenfgedgmhaaDoorGr8
import Derived.Test.YtlenenfgedgmhaaDoorPt1
namespace Go.Proofs.YtlenenfgedgmhaaDoor
set_option linter.unusedSimpArgs false
set_option linter.unusedVariables false
open Go.RowKit
/-- a number brought within a count -/
theorem mod_in (a : Int) {n : Nat} (h0 : 0 < n) (h1 : n ≤ 256) : ∃ p : Nat, p < n ∧ wrap64 ((IntKind.u64.wrap a).tmod (n : Int)) = (p : Int) := by
  have hw : 0 ≤ IntKind.u64.wrap a := by
    show 0 ≤ a % (2 ^ 64)
    exact Int.emod_nonneg _ (by decide)
  have e : (IntKind.u64.wrap a).tmod (n : Int) = IntKind.u64.wrap a % (n : Int) := Int.tmod_eq_emod_of_nonneg hw
  have l0 := Int.emod_nonneg (IntKind.u64.wrap a) (b := (n : Int)) (by omega)
  have l1 := Int.emod_lt_of_pos (IntKind.u64.wrap a) (b := (n : Int)) (by omega)
  refine ⟨(IntKind.u64.wrap a % (n : Int)).toNat, by omega, ?_⟩
  rw [e, Int.toNat_of_nonneg l0]
  generalize IntKind.u64.wrap a % (n : Int) = z at l0 l1
  unfold wrap64
  omega
set_option maxRecDepth 100000 in
set_option maxHeartbeats 40000000 in
theorem parts_walk {l : List ND} {v : Value} (w : World) (hs : SlR w w.heap.size 4 (ND.Is w w.heap.size) v l) (hok : ∀ d ∈ l, NdOk d) (x1 : Int) (z1 : -9223372036854775808 ≤ x1) (z1' : x1 ≤ 9223372036854775807) (x2 : Int) (z2 : -9223372036854775808 ≤ x2) (z2' : x2 ≤ 9223372036854775807) (hm : Marks w) (hp : Pow w) (hg : Signs w) :
    Calls Tryd.prog 8 #[.agg #[v], .int .i64 x1, .int .i64 x2] w fun e w' => e = .returned (.bool true) ∧ Below w.heap.size w w' := by
  have g1 : 1 < w.heap.size := by
    obtain ⟨_, _, h⟩ := signs_block hg
    rcases Nat.lt_or_ge 1 w.heap.size with h0 | h0
    · exact h0
    · rw [Array.getElem?_eq_none h0] at h; cases h
  have AWK : Hid (∀ W, Below w.heap.size w W → Calls Tryd.prog 20 #[] W fun e w' => e = .returned (.bool true) ∧ Below W.heap.size W w') := Lib.hid (fun W hW => awake_any W (hm.below hW) (hp.below hW) (hg.of_block (hW.block 1 g1)))
  have GRT := Lib.hid (fun W (hW : Below w.heap.size w W) => great_any W w hs hW)
  have RGE0 := Lib.hid (fun W (hW : Below w.heap.size w W) => right_e W w hs hok hm hp hW)
  by_cases hr : rightE l = 0
  · obtain ⟨t, tg, td, ts, hl, _⟩ := right_tree hok hr
    rw [hr] at RGE0
    have tpos := size_pos t
    have hln : l.length = t.size := by rw [hl, nds_len]
    obtain ⟨ap, hap, ha1⟩ := mod_in x1 (n := t.size) tpos ts
    obtain ⟨u, hu, us1, us2, us3, _, us5⟩ := sub_some t ap hap
    have ug := us3 tg
    have ud : u.deep ≤ 32 := by omega
    have uz : u.size ≤ 256 := by omega
    obtain ⟨ip, hip, ha2⟩ := mod_in x2 (n := u.size) (size_pos u) uz
    obtain ⟨x, hx, xs1, _⟩ := sub_some u ip hip
    have hx2 : subT t (ap + ip) = some x := by rw [← us5 ip hip]; exact hx
    have PE : Hid (∀ (q : Nat) (y : Tr) (W : World), q < t.size → subT t q = some y → Below w.heap.size w W → Calls Tryd.prog 16 #[.agg #[v], .int .i64 (q : Int)] W (PartIs W (y.flat 0) 0)) := Lib.hid (fun q y W hq hy hW => part_yes q tg ts td hq hy W w (hl ▸ hs) (hl ▸ hok) hm hp hW)
    have PE1 : Hid (∀ W, Below w.heap.size w W → Calls Tryd.prog 16 #[.agg #[v], .int .i64 (ap : Int)] W (PartIs W (u.flat 0) 0)) := Lib.hid (fun W hW => PE.out ap u W hap hu hW)
    have PE2 : Hid (∀ W, Below w.heap.size w W → Calls Tryd.prog 16 #[.agg #[v], .int .i64 ((ap : Int) + (ip : Int))] W (PartIs W (x.flat 0) 0)) := Lib.hid (fun W hW => by
      have := PE.out (ap + ip) x W (by omega) hx2 hW
      rw [Int.natCast_add] at this
      exact this)
    have PE0 : Hid (∀ W, Below w.heap.size w W → Calls Tryd.prog 16 #[.agg #[v], .int .i64 0] W (PartIs W (t.flat 0) 0)) := Lib.hid (fun W hW => PE.out 0 t W tpos (sub_zero t) hW)
    have PEN : Hid (∀ W, Below w.heap.size w W → Calls Tryd.prog 16 #[.agg #[v], .int .i64 (t.size : Int)] W (PartIs W [] 2)) := Lib.hid (fun W hW => part_no W w hs hok hm hp hW _ 2 (Or.inr ⟨hr, Or.inr (by rw [hln]; exact Int.le_refl _), rfl⟩))
    have PPI : Hid (∀ (W : World) (v2 : Value), Below w.heap.size w W → SlR W W.heap.size 4 (ND.Is W W.heap.size) v2 ((u.flat 0).map EN.nd) → Calls Tryd.prog 16 #[.agg #[v2], .int .i64 (ip : Int)] W (PartIs W (x.flat 0) 0)) := Lib.hid (fun W v2 hW h2 => part_yes ip ug uz ud hip hx W W h2 (nds_ok ug 0) (hm.below hW) (hp.below hW) (Below.refl _ _))
    have RGP : Hid (∀ (W : World) (v2 : Value), Below w.heap.size w W → SlR W W.heap.size 4 (ND.Is W W.heap.size) v2 ((u.flat 0).map EN.nd) → Calls Tryd.prog 18 #[.agg #[v2]] W fun e w' => e = .returned (.int .i64 0) ∧ Below W.heap.size W w') := Lib.hid (fun W v2 hW h2 => by
      have := right_e W W h2 (nds_ok ug 0) (hm.below hW) (hp.below hW) (Below.refl _ _)
      rw [show rightE ((u.flat 0).map EN.nd) = 0 from (right_of ug uz ud).1] at this
      exact this)
    have SM1 : Hid (∀ (W W0 : World) (v2 v3 : Value), Below W0.heap.size W0 W → SlR W0 W0.heap.size 4 (ND.Is W0 W0.heap.size) v2 ((x.flat 0).map EN.nd) → SlR W0 W0.heap.size 4 (ND.Is W0 W0.heap.size) v3 ((x.flat 0).map EN.nd) → Calls Tryd.prog 11 #[.agg #[v2], .agg #[v3]] W fun e w' => e = .returned (.bool true) ∧ Below W.heap.size W w') := Lib.hid (fun W W0 v2 v3 hW h2 h3 => by
      have := ref8_any W W0 h2 h3 hW
      rw [decide_eq_true rfl] at this
      exact this)
    have SM2 : Hid (∀ (W : World) (v2 : Value), Below w.heap.size w W → SlR W W.heap.size 4 (ND.Is W W.heap.size) v2 ((t.flat 0).map EN.nd) → Calls Tryd.prog 11 #[.agg #[v2], .agg #[v]] W fun e w' => e = .returned (.bool true) ∧ Below W.heap.size W w') := Lib.hid (fun W v2 hW h2 => by
      have := ref8_any W W h2 (ndRead hs hW) (Below.refl _ _)
      rw [show l = (t.flat 0).map EN.nd from hl, decide_eq_true rfl] at this
      exact this)
    have RGE : Hid (∀ W, Below w.heap.size w W → Calls Tryd.prog 18 #[.agg #[v]] W fun e w' => e = .returned (.int .i64 0) ∧ Below W.heap.size W w') := RGE0
    obtain ⟨a, c, rfl⟩ : ∃ a c, v = .slice a l.length c := by obtain ⟨a, c, h, _⟩ := hs.form; exact ⟨a, c, h⟩
    rw [hln] at GRT RGE PE1 PE2 PE0 PEN SM2 ⊢
    obtain ⟨n, hn⟩ : ∃ n, t.size = n := ⟨_, rfl⟩
    obtain ⟨us, hus⟩ : ∃ n, u.size = n := ⟨_, rfl⟩
    obtain ⟨xs, hxs⟩ : ∃ n, x.size = n := ⟨_, rfl⟩
    have HT : Hid ((t.flat 0).length = n) := Lib.hid (by rw [trFlat_len, hn])
    have HU : Hid ((u.flat 0).length = us) := Lib.hid (by rw [trFlat_len, hus])
    have HX : Hid ((x.flat 0).length = xs) := Lib.hid (by rw [trFlat_len, hxs])
    have HN : Hid (([] : List EN).length = 0) := Lib.hid rfl
    rw [hn] at GRT RGE PE1 PE2 PE0 PEN SM2 hap ha1 tpos ts us1 ⊢
    rw [hus] at us1 uz hip ha2 xs1
    have upos := size_pos u
    rw [hus] at upos
    rw [hxs] at xs1
    have HA1 := Lib.hid ha1
    have HA2 := Lib.hid ha2
    have i1 : ((n : Int) == 0) = false := by simp; omega
    have i2 : ((us : Int) == 0) = false := by simp; omega
    have ap0 : (0 : Int) ≤ (ap : Int) := Int.natCast_nonneg _
    have ip0 : (0 : Int) ≤ (ip : Int) := Int.natCast_nonneg _
    have ap6 : (ap : Int) ≤ 256 := by omega
    have ip6 : (ip : Int) ≤ 256 := by omega
    have n6 : (n : Int) ≤ 256 := by omega
    have u6 : (us : Int) ≤ 256 := by omega
    have n0 : (0 : Int) < (n : Int) := by omega
    have u0 : (0 : Int) < (us : Int) := by omega
    have d1 : decide ((n : Int) - (ap : Int) < (us : Int)) = false := by simp only [decide_eq_false_iff_not]; omega
    have B0 : Hid (Below w.heap.size w w) := Lib.hid (Below.refl _ _)
    have A0 : Hid (Below w.heap.size w (w.alloc (.cells #[.slice a n c] 24))) := Lib.hid ((Below.refl _ _).alloc (Nat.le_refl _) _)
    have KE0 : Hid (Blk (w.alloc (.cells #[.slice a n c] 24)) w.heap.size 24 #[.slice a n c]) := Lib.hid (Blk.new _ _ _)
    have tok3 : True := trivial
    have tok4 : True := trivial
    have tok5 : True := trivial
    have tok6 : True := trivial
    have tok7 : True := trivial
    have tok8 : True := trivial
    have tok9 : True := trivial
    have tok10 : True := trivial
    have tok11 : True := trivial
    clear hs hok hm hp hg g1 hr hl hln tg td ts hap ha1 hu us1 us2 us3 us5 ug ud uz hip ha2 hx xs1 hx2 PE hn hus hxs tpos upos z1 z1' z2 z2' RGE0
    go_enter Tryd.func8, Tryd.ntmps8
    try dsimp only [List.append]
    go_wp2_with (first
    | (go_at_call 20
       go_must (refine (AWK.out _ (B0.out.trans (A0.out.mono B0.out.size))).mono ?_)
       rintro e w1 ⟨rfl, b1⟩
       have D1 := Lib.hid (A0.out.trans (b1.mono A0.out.size))
       have B1 := Lib.hid (B0.out.trans (D1.out.mono B0.out.size))
       have kE1 := KE0.out.below b1 KE0.out.lt
       have eE1 : w1.cell? ⟨w.heap.size, 0, none⟩ = some (.slice a n c) := kE1.cell (i := 0) rfl
       have lE1 := kE1.lt
       have KE1 := Lib.hid kE1
       have A1 := Lib.hid (Below.refl w1.heap.size w1)
       clear b1 kE1)
    | (go_at_call 12
       go_must (refine (GRT.out _ (B1.out.trans (A1.out.mono B1.out.size))).mono ?_)
       rintro e w2 ⟨⟨g, rfl⟩, b2⟩
       have D2 := Lib.hid (A1.out.trans (b2.mono A1.out.size))
       have B2 := Lib.hid (B1.out.trans (D2.out.mono B1.out.size))
       have kE2 := KE1.out.below b2 KE1.out.lt
       have eE2 : w2.cell? ⟨w.heap.size, 0, none⟩ = some (.slice a n c) := kE2.cell (i := 0) rfl
       have lE2 := kE2.lt
       have KE2 := Lib.hid kE2
       have A2 := Lib.hid (Below.refl w2.heap.size w2)
       clear b2 kE2
       cases g)
    | (go_at_call 18
       have _t := tok3
       go_must (refine (RGE.out _ (B2.out.trans (A2.out.mono B2.out.size))).mono ?_)
       rintro e w3 ⟨rfl, b3⟩
       have D3 := Lib.hid (A2.out.trans (b3.mono A2.out.size))
       have B3 := Lib.hid (B2.out.trans (D3.out.mono B2.out.size))
       have kE3 := KE2.out.below b3 KE2.out.lt
       have eE3 : w3.cell? ⟨w.heap.size, 0, none⟩ = some (.slice a n c) := kE3.cell (i := 0) rfl
       have lE3 := kE3.lt
       have KE3 := Lib.hid kE3
       have A3 := Lib.hid (Below.refl w3.heap.size w3)
       clear b3 kE3
       clear tok3 _t)
    | (go_at_call 16
       have _t := tok4
       rw [HA1.out]
       go_must (refine (PE1.out _ (B3.out.trans (A3.out.mono B3.out.size))).mono ?_)
       rintro e w4 ⟨v4, rfl, h4, b4⟩
       obtain ⟨a4, c4, hv4, _⟩ := h4.form
       subst hv4
       have D4 := Lib.hid (A3.out.trans (b4.mono A3.out.size))
       have B4 := Lib.hid (B3.out.trans (D4.out.mono B3.out.size))
       have kE4 := KE3.out.below b4 KE3.out.lt
       have eE4 : w4.cell? ⟨w.heap.size, 0, none⟩ = some (.slice a n c) := kE4.cell (i := 0) rfl
       have lE4 := kE4.lt
       rw [HU.out]
       have SP4 := Lib.hid (HU.out ▸ (h4.map_ EN.nd (fun x y h => ENode.nd h)) : SlR w4 w4.heap.size 4 (ND.Is w4 w4.heap.size) (.slice a4 us c4) ((u.flat 0).map EN.nd))
       have KE4 := Lib.hid (kE4.alloc (.cells #[.slice a4 us c4] 24))
       have KP4 := Lib.hid (Blk.new w4 24 #[.slice a4 us c4])
       have A4 := Lib.hid ((Below.refl w4.heap.size w4).alloc (Nat.le_refl _) (.cells #[.slice a4 us c4] 24))
       clear h4 b4 kE4
       clear tok4 _t)
    | (go_at_call 18
       have _t := tok5
       go_must (refine (RGP.out _ _ (B4.out.trans (A4.out.mono B4.out.size)) (ndRead SP4.out A4.out)).mono ?_)
       rintro e w5 ⟨rfl, b5⟩
       have D5 := Lib.hid (A4.out.trans (b5.mono A4.out.size))
       have B5 := Lib.hid (B4.out.trans (D5.out.mono B4.out.size))
       have kE5 := KE4.out.below b5 KE4.out.lt
       have eE5 : w5.cell? ⟨w.heap.size, 0, none⟩ = some (.slice a n c) := kE5.cell (i := 0) rfl
       have lE5 := kE5.lt
       have kP5 := KP4.out.below b5 KP4.out.lt
       have eP5 : w5.cell? ⟨w4.heap.size, 0, none⟩ = some (.slice a4 us c4) := kP5.cell (i := 0) rfl
       have lP5 := kP5.lt
       have SP5 := Lib.hid (ndRead SP4.out D5.out)
       have KE5 := Lib.hid kE5
       have KP5 := Lib.hid kP5
       have A5 := Lib.hid (Below.refl w5.heap.size w5)
       clear b5 kE5 kP5
       clear tok5 _t)
    | (go_at_call 16
       have _t := tok6
       rw [HA2.out]
       go_must (refine (PPI.out _ _ (B5.out.trans (A5.out.mono B5.out.size)) (ndRead SP5.out A5.out)).mono ?_)
       rintro e w6 ⟨v6, rfl, h6, b6⟩
       obtain ⟨a6, c6, hv6, _⟩ := h6.form
       subst hv6
       have D6 := Lib.hid (A5.out.trans (b6.mono A5.out.size))
       have B6 := Lib.hid (B5.out.trans (D6.out.mono B5.out.size))
       have kE6 := KE5.out.below b6 KE5.out.lt
       have eE6 : w6.cell? ⟨w.heap.size, 0, none⟩ = some (.slice a n c) := kE6.cell (i := 0) rfl
       have lE6 := kE6.lt
       have kP6 := KP5.out.below b6 KP5.out.lt
       have eP6 : w6.cell? ⟨w4.heap.size, 0, none⟩ = some (.slice a4 us c4) := kP6.cell (i := 0) rfl
       have lP6 := kP6.lt
       have SP6 := Lib.hid (ndRead SP5.out D6.out)
       rw [HX.out]
       have SQ6 := Lib.hid (HX.out ▸ (h6.map_ EN.nd (fun x y h => ENode.nd h)) : SlR w6 w6.heap.size 4 (ND.Is w6 w6.heap.size) (.slice a6 xs c6) ((x.flat 0).map EN.nd))
       have KE6 := Lib.hid (kE6.alloc (.cells #[.slice a6 xs c6] 24))
       have KP6 := Lib.hid (kP6.alloc (.cells #[.slice a6 xs c6] 24))
       have KQ6 := Lib.hid (Blk.new w6 24 #[.slice a6 xs c6])
       have A6 := Lib.hid ((Below.refl w6.heap.size w6).alloc (Nat.le_refl _) (.cells #[.slice a6 xs c6] 24))
       clear h6 b6 kE6 kP6
       clear tok6 _t)
    | (go_at_call 16
       have _t := tok7
       go_must (refine (PE2.out _ (B6.out.trans (A6.out.mono B6.out.size))).mono ?_)
       rintro e w7 ⟨v7, rfl, h7, b7⟩
       obtain ⟨a7, c7, hv7, _⟩ := h7.form
       subst hv7
       have D7 := Lib.hid (A6.out.trans (b7.mono A6.out.size))
       have B7 := Lib.hid (B6.out.trans (D7.out.mono B6.out.size))
       have kE7 := KE6.out.below b7 KE6.out.lt
       have eE7 : w7.cell? ⟨w.heap.size, 0, none⟩ = some (.slice a n c) := kE7.cell (i := 0) rfl
       have lE7 := kE7.lt
       have kP7 := KP6.out.below b7 KP6.out.lt
       have eP7 : w7.cell? ⟨w4.heap.size, 0, none⟩ = some (.slice a4 us c4) := kP7.cell (i := 0) rfl
       have lP7 := kP7.lt
       have kQ7 := KQ6.out.below b7 KQ6.out.lt
       have eQ7 : w7.cell? ⟨w6.heap.size, 0, none⟩ = some (.slice a6 xs c6) := kQ7.cell (i := 0) rfl
       have lQ7 := kQ7.lt
       have SP7 := Lib.hid (ndRead SP6.out D7.out)
       have SQ7 := Lib.hid (ndRead SQ6.out D7.out)
       rw [HX.out]
       have SR7 := Lib.hid (HX.out ▸ (h7.map_ EN.nd (fun x y h => ENode.nd h)) : SlR w7 w7.heap.size 4 (ND.Is w7 w7.heap.size) (.slice a7 xs c7) ((x.flat 0).map EN.nd))
       have KE7 := Lib.hid (kE7.alloc (.cells #[.slice a7 xs c7] 24))
       have KP7 := Lib.hid (kP7.alloc (.cells #[.slice a7 xs c7] 24))
       have KQ7 := Lib.hid (kQ7.alloc (.cells #[.slice a7 xs c7] 24))
       have KR7 := Lib.hid (Blk.new w7 24 #[.slice a7 xs c7])
       have A7 := Lib.hid ((Below.refl w7.heap.size w7).alloc (Nat.le_refl _) (.cells #[.slice a7 xs c7] 24))
       clear h7 b7 kE7 kP7 kQ7
       clear tok7 _t)
    | (go_at_call 16
       have _t := tok8
       go_must (refine (PE0.out _ (B7.out.trans (A7.out.mono B7.out.size))).mono ?_)
       rintro e w8 ⟨v8, rfl, h8, b8⟩
       obtain ⟨a8, c8, hv8, _⟩ := h8.form
       subst hv8
       have D8 := Lib.hid (A7.out.trans (b8.mono A7.out.size))
       have B8 := Lib.hid (B7.out.trans (D8.out.mono B7.out.size))
       have kE8 := KE7.out.below b8 KE7.out.lt
       have eE8 : w8.cell? ⟨w.heap.size, 0, none⟩ = some (.slice a n c) := kE8.cell (i := 0) rfl
       have lE8 := kE8.lt
       have kP8 := KP7.out.below b8 KP7.out.lt
       have eP8 : w8.cell? ⟨w4.heap.size, 0, none⟩ = some (.slice a4 us c4) := kP8.cell (i := 0) rfl
       have lP8 := kP8.lt
       have kQ8 := KQ7.out.below b8 KQ7.out.lt
       have eQ8 : w8.cell? ⟨w6.heap.size, 0, none⟩ = some (.slice a6 xs c6) := kQ8.cell (i := 0) rfl
       have lQ8 := kQ8.lt
       have kR8 := KR7.out.below b8 KR7.out.lt
       have eR8 : w8.cell? ⟨w7.heap.size, 0, none⟩ = some (.slice a7 xs c7) := kR8.cell (i := 0) rfl
       have lR8 := kR8.lt
       have SP8 := Lib.hid (ndRead SP7.out D8.out)
       have SQ8 := Lib.hid (ndRead SQ7.out D8.out)
       have SR8 := Lib.hid (ndRead SR7.out D8.out)
       rw [HT.out]
       have ST8 := Lib.hid (HT.out ▸ (h8.map_ EN.nd (fun x y h => ENode.nd h)) : SlR w8 w8.heap.size 4 (ND.Is w8 w8.heap.size) (.slice a8 n c8) ((t.flat 0).map EN.nd))
       have KE8 := Lib.hid (kE8.alloc (.cells #[.slice a8 n c8] 24))
       have KP8 := Lib.hid (kP8.alloc (.cells #[.slice a8 n c8] 24))
       have KQ8 := Lib.hid (kQ8.alloc (.cells #[.slice a8 n c8] 24))
       have KR8 := Lib.hid (kR8.alloc (.cells #[.slice a8 n c8] 24))
       have KT8 := Lib.hid (Blk.new w8 24 #[.slice a8 n c8])
       have A8 := Lib.hid ((Below.refl w8.heap.size w8).alloc (Nat.le_refl _) (.cells #[.slice a8 n c8] 24))
       clear h8 b8 kE8 kP8 kQ8 kR8
       clear tok8 _t)
    | (go_at_call 16
       have _t := tok9
       go_must (refine (PEN.out _ (B8.out.trans (A8.out.mono B8.out.size))).mono ?_)
       rintro e w9 ⟨v9, rfl, h9, b9⟩
       obtain ⟨a9, c9, hv9, _⟩ := h9.form
       subst hv9
       have D9 := Lib.hid (A8.out.trans (b9.mono A8.out.size))
       have B9 := Lib.hid (B8.out.trans (D9.out.mono B8.out.size))
       have kE9 := KE8.out.below b9 KE8.out.lt
       have eE9 : w9.cell? ⟨w.heap.size, 0, none⟩ = some (.slice a n c) := kE9.cell (i := 0) rfl
       have lE9 := kE9.lt
       have kP9 := KP8.out.below b9 KP8.out.lt
       have eP9 : w9.cell? ⟨w4.heap.size, 0, none⟩ = some (.slice a4 us c4) := kP9.cell (i := 0) rfl
       have lP9 := kP9.lt
       have kQ9 := KQ8.out.below b9 KQ8.out.lt
       have eQ9 : w9.cell? ⟨w6.heap.size, 0, none⟩ = some (.slice a6 xs c6) := kQ9.cell (i := 0) rfl
       have lQ9 := kQ9.lt
       have kR9 := KR8.out.below b9 KR8.out.lt
       have eR9 : w9.cell? ⟨w7.heap.size, 0, none⟩ = some (.slice a7 xs c7) := kR9.cell (i := 0) rfl
       have lR9 := kR9.lt
       have kT9 := KT8.out.below b9 KT8.out.lt
       have eT9 : w9.cell? ⟨w8.heap.size, 0, none⟩ = some (.slice a8 n c8) := kT9.cell (i := 0) rfl
       have lT9 := kT9.lt
       have SP9 := Lib.hid (ndRead SP8.out D9.out)
       have SQ9 := Lib.hid (ndRead SQ8.out D9.out)
       have SR9 := Lib.hid (ndRead SR8.out D9.out)
       have ST9 := Lib.hid (ndRead ST8.out D9.out)
       rw [HN.out]
       have SN9 := Lib.hid (HN.out ▸ (h9.map_ EN.nd (fun x y h => ENode.nd h)) : SlR w9 w9.heap.size 4 (ND.Is w9 w9.heap.size) (.slice a9 0 c9) (([] : List EN).map EN.nd))
       have KE9 := Lib.hid (kE9.alloc (.cells #[.slice a9 0 c9] 24))
       have KP9 := Lib.hid (kP9.alloc (.cells #[.slice a9 0 c9] 24))
       have KQ9 := Lib.hid (kQ9.alloc (.cells #[.slice a9 0 c9] 24))
       have KR9 := Lib.hid (kR9.alloc (.cells #[.slice a9 0 c9] 24))
       have KT9 := Lib.hid (kT9.alloc (.cells #[.slice a9 0 c9] 24))
       have KN9 := Lib.hid (Blk.new w9 24 #[.slice a9 0 c9])
       have A9 := Lib.hid ((Below.refl w9.heap.size w9).alloc (Nat.le_refl _) (.cells #[.slice a9 0 c9] 24))
       clear h9 b9 kE9 kP9 kQ9 kR9 kT9
       clear tok9 _t)
    | (go_at_call 11
       have _t := tok10
       go_must (refine (SM1.out _ _ _ _ (Below.refl _ _) (ndRead SQ9.out A9.out) (ndRead SR9.out A9.out)).mono ?_)
       rintro e w10 ⟨rfl, b10⟩
       have D10 := Lib.hid (A9.out.trans (b10.mono A9.out.size))
       have B10 := Lib.hid (B9.out.trans (D10.out.mono B9.out.size))
       have kE10 := KE9.out.below b10 KE9.out.lt
       have eE10 : w10.cell? ⟨w.heap.size, 0, none⟩ = some (.slice a n c) := kE10.cell (i := 0) rfl
       have lE10 := kE10.lt
       have kP10 := KP9.out.below b10 KP9.out.lt
       have eP10 : w10.cell? ⟨w4.heap.size, 0, none⟩ = some (.slice a4 us c4) := kP10.cell (i := 0) rfl
       have lP10 := kP10.lt
       have kQ10 := KQ9.out.below b10 KQ9.out.lt
       have eQ10 : w10.cell? ⟨w6.heap.size, 0, none⟩ = some (.slice a6 xs c6) := kQ10.cell (i := 0) rfl
       have lQ10 := kQ10.lt
       have kR10 := KR9.out.below b10 KR9.out.lt
       have eR10 : w10.cell? ⟨w7.heap.size, 0, none⟩ = some (.slice a7 xs c7) := kR10.cell (i := 0) rfl
       have lR10 := kR10.lt
       have kT10 := KT9.out.below b10 KT9.out.lt
       have eT10 : w10.cell? ⟨w8.heap.size, 0, none⟩ = some (.slice a8 n c8) := kT10.cell (i := 0) rfl
       have lT10 := kT10.lt
       have kN10 := KN9.out.below b10 KN9.out.lt
       have eN10 : w10.cell? ⟨w9.heap.size, 0, none⟩ = some (.slice a9 0 c9) := kN10.cell (i := 0) rfl
       have lN10 := kN10.lt
       have SP10 := Lib.hid (ndRead SP9.out D10.out)
       have SQ10 := Lib.hid (ndRead SQ9.out D10.out)
       have SR10 := Lib.hid (ndRead SR9.out D10.out)
       have ST10 := Lib.hid (ndRead ST9.out D10.out)
       have SN10 := Lib.hid (ndRead SN9.out D10.out)
       have KE10 := Lib.hid kE10
       have KP10 := Lib.hid kP10
       have KQ10 := Lib.hid kQ10
       have KR10 := Lib.hid kR10
       have KT10 := Lib.hid kT10
       have KN10 := Lib.hid kN10
       have A10 := Lib.hid (Below.refl w10.heap.size w10)
       clear b10 kE10 kP10 kQ10 kR10 kT10 kN10
       clear tok10 _t)
    | (go_at_call 11
       have _t := tok11
       go_must (refine (SM2.out _ _ (B10.out.trans (A10.out.mono B10.out.size)) (ndRead ST10.out A10.out)).mono ?_)
       rintro e w11 ⟨rfl, b11⟩
       have D11 := Lib.hid (A10.out.trans (b11.mono A10.out.size))
       have B11 := Lib.hid (B10.out.trans (D11.out.mono B10.out.size))
       have kE11 := KE10.out.below b11 KE10.out.lt
       have eE11 : w11.cell? ⟨w.heap.size, 0, none⟩ = some (.slice a n c) := kE11.cell (i := 0) rfl
       have lE11 := kE11.lt
       have kP11 := KP10.out.below b11 KP10.out.lt
       have eP11 : w11.cell? ⟨w4.heap.size, 0, none⟩ = some (.slice a4 us c4) := kP11.cell (i := 0) rfl
       have lP11 := kP11.lt
       have kQ11 := KQ10.out.below b11 KQ10.out.lt
       have eQ11 : w11.cell? ⟨w6.heap.size, 0, none⟩ = some (.slice a6 xs c6) := kQ11.cell (i := 0) rfl
       have lQ11 := kQ11.lt
       have kR11 := KR10.out.below b11 KR10.out.lt
       have eR11 : w11.cell? ⟨w7.heap.size, 0, none⟩ = some (.slice a7 xs c7) := kR11.cell (i := 0) rfl
       have lR11 := kR11.lt
       have kT11 := KT10.out.below b11 KT10.out.lt
       have eT11 : w11.cell? ⟨w8.heap.size, 0, none⟩ = some (.slice a8 n c8) := kT11.cell (i := 0) rfl
       have lT11 := kT11.lt
       have kN11 := KN10.out.below b11 KN10.out.lt
       have eN11 : w11.cell? ⟨w9.heap.size, 0, none⟩ = some (.slice a9 0 c9) := kN11.cell (i := 0) rfl
       have lN11 := kN11.lt
       have SP11 := Lib.hid (ndRead SP10.out D11.out)
       have SQ11 := Lib.hid (ndRead SQ10.out D11.out)
       have SR11 := Lib.hid (ndRead SR10.out D11.out)
       have ST11 := Lib.hid (ndRead ST10.out D11.out)
       have SN11 := Lib.hid (ndRead SN10.out D11.out)
       have KE11 := Lib.hid kE11
       have KP11 := Lib.hid kP11
       have KQ11 := Lib.hid kQ11
       have KR11 := Lib.hid kR11
       have KT11 := Lib.hid kT11
       have KN11 := Lib.hid kN11
       have A11 := Lib.hid (Below.refl w11.heap.size w11)
       clear b11 kE11 kP11 kQ11 kR11 kT11 kN11
       clear tok11 _t))
    · go_ret
      exact ⟨rfl, B11.out⟩
    · go_ret
      exact ⟨rfl, B2.out⟩
  · obtain ⟨rc, hrc⟩ : ∃ z, rightE l = z := ⟨_, rfl⟩
    rw [hrc] at RGE0 hr
    obtain ⟨a, c, rfl⟩ : ∃ a c, v = .slice a l.length c := by obtain ⟨a, c, h, _⟩ := hs.form; exact ⟨a, c, h⟩
    obtain ⟨n, hn⟩ : ∃ n, l.length = n := ⟨_, rfl⟩
    rw [hn] at GRT RGE0 ⊢
    have RGE := RGE0
    have i1 : ((rc : Int) != 0) = true := by simpa using hr
    have i2 : ((rc : Int) == 0) = false := by simpa using hr
    have B0 : Hid (Below w.heap.size w w) := Lib.hid (Below.refl _ _)
    have A0 : Hid (Below w.heap.size w (w.alloc (.cells #[.slice a n c] 24))) := Lib.hid ((Below.refl _ _).alloc (Nat.le_refl _) _)
    have KE0 : Hid (Blk (w.alloc (.cells #[.slice a n c] 24)) w.heap.size 24 #[.slice a n c]) := Lib.hid (Blk.new _ _ _)
    have tok3 : True := trivial
    clear hs hok hm hp hg g1 hr hrc hn RGE0 z1 z1' z2 z2'
    go_enter Tryd.func8, Tryd.ntmps8
    try dsimp only [List.append]
    go_wp2_with (first
    | (go_at_call 20
       go_must (refine (AWK.out _ (B0.out.trans (A0.out.mono B0.out.size))).mono ?_)
       rintro e w1 ⟨rfl, b1⟩
       have D1 := Lib.hid (A0.out.trans (b1.mono A0.out.size))
       have B1 := Lib.hid (B0.out.trans (D1.out.mono B0.out.size))
       have kE1 := KE0.out.below b1 KE0.out.lt
       have eE1 : w1.cell? ⟨w.heap.size, 0, none⟩ = some (.slice a n c) := kE1.cell (i := 0) rfl
       have lE1 := kE1.lt
       have KE1 := Lib.hid kE1
       have A1 := Lib.hid (Below.refl w1.heap.size w1)
       clear b1 kE1)
    | (go_at_call 12
       go_must (refine (GRT.out _ (B1.out.trans (A1.out.mono B1.out.size))).mono ?_)
       rintro e w2 ⟨⟨g, rfl⟩, b2⟩
       have D2 := Lib.hid (A1.out.trans (b2.mono A1.out.size))
       have B2 := Lib.hid (B1.out.trans (D2.out.mono B1.out.size))
       have kE2 := KE1.out.below b2 KE1.out.lt
       have eE2 : w2.cell? ⟨w.heap.size, 0, none⟩ = some (.slice a n c) := kE2.cell (i := 0) rfl
       have lE2 := kE2.lt
       have KE2 := Lib.hid kE2
       have A2 := Lib.hid (Below.refl w2.heap.size w2)
       clear b2 kE2
       cases g)
    | (go_at_call 18
       have _t := tok3
       go_must (refine (RGE.out _ (B2.out.trans (A2.out.mono B2.out.size))).mono ?_)
       rintro e w3 ⟨rfl, b3⟩
       have D3 := Lib.hid (A2.out.trans (b3.mono A2.out.size))
       have B3 := Lib.hid (B2.out.trans (D3.out.mono B2.out.size))
       have kE3 := KE2.out.below b3 KE2.out.lt
       have eE3 : w3.cell? ⟨w.heap.size, 0, none⟩ = some (.slice a n c) := kE3.cell (i := 0) rfl
       have lE3 := kE3.lt
       have KE3 := Lib.hid kE3
       have A3 := Lib.hid (Below.refl w3.heap.size w3)
       clear b3 kE3
       clear tok3 _t))
    · go_ret
      exact ⟨rfl, B3.out⟩
    · go_ret
      exact ⟨rfl, B2.out⟩
end Go.Proofs.YtlenenfgedgmhaaDoor
