/- The law's walk: 'topiarylaw08.ExprTells' returns true whatever the nodes and the number; the variables hold what the texts lay. -/
import Derived.Test.YtlenenfgedgmhaaDoorGr8
import Derived.Test.YtlenenfgedgmhaaDoorRq8
import Derived.Test.YtlenenfgedgmhaaDoorTw8
import Derived.Test.YtlenenfgedgmhaaDoorSp8
import Derived.Test.YtlenenfgedgmhaaDoorSameN
namespace Go.Proofs.YtlenenfgedgmhaaDoor
set_option linter.unusedSimpArgs false
set_option linter.unusedVariables false
open Go.RowKit
/-- what both Parts come to -/
theorem part_both {l : List ND} (hok : ∀ d ∈ l, NdOk d) (at_ : Int) : ∃ (qs : List EN) (cd : Nat), qs.length ≤ 256 ∧ (∀ (w w0 : World) (v : Value), SlR w0 w0.heap.size 4 (ND.Is w0 w0.heap.size) v l → Marks w0 → Pow w0 → Below w0.heap.size w0 w → Calls Tryd.prog 16 #[.agg #[v], .int .i64 at_] w (PartO w qs cd)) ∧ (∀ (w w0 : World) (v : Value), SlR w0 w0.heap.size 4 (ND.Is w0 w0.heap.size) v l → Below w0.heap.size w0 w → Calls Tryd.prog 17 #[.agg #[v], .int .i64 at_] w (PartIs w qs cd)) := by
  by_cases hr : rightE l = 0
  · by_cases ha : at_ < 0 ∨ (l.length : Int) ≤ at_
    · exact ⟨[], 2, by simp, fun w w0 v hs hm hp hw => part_none w w0 hs hok hm hp hw at_ 2 (Or.inr ⟨hr, ha, rfl⟩), fun w w0 v hs hw => (rpart_none w w0 hs hok hw at_ 2 (Or.inr ⟨hr, ha, rfl⟩)).mono fun _ _ h => h.is⟩
    · obtain ⟨t, tg, td, ts, hl, _⟩ := right_tree hok hr
      have hln : l.length = t.size := by rw [hl, nds_len]
      obtain ⟨ap, rfl⟩ : ∃ ap : Nat, at_ = (ap : Int) := ⟨at_.toNat, by omega⟩
      obtain ⟨u, hu, u1, _⟩ := sub_some t ap (by omega)
      exact ⟨u.flat 0, 0, by rw [trFlat_len]; omega, fun w w0 v hs hm hp hw => part_own ap tg ts td (by omega) hu w w0 (hl ▸ hs) (hl ▸ hok) hm hp hw, fun w w0 v hs hw => rpart_yes ap tg ts td (by omega) hu w w0 (hl ▸ hs) (hl ▸ hok) hw⟩
  · exact ⟨[], rightE l, by simp, fun w w0 v hs hm hp hw => part_none w w0 hs hok hm hp hw at_ _ (Or.inl ⟨hr, rfl⟩), fun w w0 v hs hw => (rpart_none w w0 hs hok hw at_ _ (Or.inl ⟨hr, rfl⟩)).mono fun _ _ h => h.is⟩
set_option maxRecDepth 100000 in
set_option maxHeartbeats 40000000 in
theorem tells_walk {l : List ND} {v : Value} (w : World) (hs : SlR w w.heap.size 4 (ND.Is w w.heap.size) v l) (hok : ∀ d ∈ l, NdOk d) (hfit : l.length * 56 ≤ 140737488355328) (hkf : ∀ d ∈ l, d.kids.length * 8 ≤ 140737488355328) (at_ : Int) (hm : Marks w) (hp : Pow w) (hg : Signs w) :
    Calls Tryd.prog 4 #[.agg #[v], .int .i64 at_] w fun e w' => e = .returned (.bool true) ∧ Below w.heap.size w w' := by
  have g1 : 1 < w.heap.size := by
    obtain ⟨_, _, h⟩ := signs_block hg
    rcases Nat.lt_or_ge 1 w.heap.size with h0 | h0
    · exact h0
    · rw [Array.getElem?_eq_none h0] at h; cases h
  obtain ⟨qs, cd, hq6, PX, QX⟩ := part_both hok at_
  have GRT := Lib.hid (fun W (hW : Below w.heap.size w W) => great_any W w hs hW)
  have TWC := Lib.hid (fun W (hW : Below w.heap.size w W) => twin8 W w hs hfit hkf hW)
  have PRX : Hid (∀ (W : World) (v2 : Value), Below w.heap.size w W → SlR W W.heap.size 4 (ND.Is W W.heap.size) v2 l → Calls Tryd.prog 14 #[.agg #[v2]] W fun e w' => e = .returned (.tuple #[.string (txt (printE l).1), .int .i64 ((printE l).2 : Int)]) ∧ Below W.heap.size W w') := Lib.hid (fun W v2 hW h2 => print_e W W h2 hok (hm.below hW) (hp.below hW) (hg.of_block (hW.block 1 g1)) (Below.refl _ _))
  have PRE := Lib.hid (fun W (hW : Below w.heap.size w W) => rprint W w hs hok hW)
  have PPX : Hid (∀ (W : World) (v2 : Value), Below w.heap.size w W → SlR W W.heap.size 4 (ND.Is W W.heap.size) v2 l → Calls Tryd.prog 16 #[.agg #[v2], .int .i64 at_] W (PartO W qs cd)) := Lib.hid (fun W v2 hW h2 => PX W W v2 h2 (hm.below hW) (hp.below hW) (Below.refl _ _))
  have PPE := Lib.hid (fun W (hW : Below w.heap.size w W) => QX W w v hs hW)
  have RTX0 : Hid (∀ (W W0 : World) (v2 : Value), Below w.heap.size w W0 → SlR W0 W0.heap.size 4 (ND.Is W0 W0.heap.size) v2 l → Below W0.heap.size W0 W → Calls Tryd.prog 18 #[.agg #[v2]] W fun e w' => e = .returned (.int .i64 (rightE l : Int)) ∧ Below W.heap.size W w') := Lib.hid (fun W W0 v2 hW h2 hb => right_e W W0 h2 hok (hm.below hW) (hp.below hW) hb)
  have RTE := Lib.hid (fun W (hW : Below w.heap.size w W) => rright W w hs hok hW)
  have SPQ0 : Hid (∀ (W W0 : World) (v2 v3 : Value), SlR W0 W0.heap.size 4 (ND.Is W0 W0.heap.size) v2 (qs.map EN.nd) → SlR W0 W0.heap.size 4 (ND.Is W0 W0.heap.size) v3 (qs.map EN.nd) → Below W0.heap.size W0 W → Calls Tryd.prog 11 #[.agg #[v2], .agg #[v3]] W fun e w' => e = .returned (.bool true) ∧ Below W.heap.size W w') := Lib.hid (fun W W0 v2 v3 h2 h3 hW => by
    have := ref8_any W W0 h2 h3 hW
    rw [decide_eq_true rfl] at this
    exact this)
  have SXE0 : Hid (∀ (W W0 : World) (v2 : Value), Below w.heap.size w W0 → SlR W0 W0.heap.size 4 (ND.Is W0 W0.heap.size) v2 l → Below W0.heap.size W0 W → Calls Tryd.prog 11 #[.agg #[v2], .agg #[v]] W fun e w' => e = .returned (.bool true) ∧ Below W.heap.size W w') := Lib.hid (fun W W0 v2 hW h2 hb => by
    have := ref8_any W W0 h2 (ndRead hs hW) hb
    rw [decide_eq_true rfl] at this
    exact this)
  obtain ⟨a, c, rfl⟩ : ∃ a c, v = .slice a l.length c := by obtain ⟨a, c, h, _⟩ := hs.form; exact ⟨a, c, h⟩
  obtain ⟨n, hn⟩ : ∃ n, l.length = n := ⟨_, rfl⟩
  have HN := Lib.hid hn
  obtain ⟨k5, hk5⟩ : ∃ n, qs.length = n := ⟨_, rfl⟩
  have HK5 := Lib.hid hk5
  rw [hk5] at hq6
  rw [hn] at GRT TWC PRE PPE RTE SXE0 ⊢
  obtain ⟨⟨tx, pf⟩, hP⟩ : ∃ P, printE l = P := ⟨_, rfl⟩
  rw [hP] at PRX PRE
  dsimp only at PRX PRE
  obtain ⟨tb, htb⟩ : ∃ z, txt tx = z := ⟨_, rfl⟩
  rw [htb] at PRX PRE
  obtain ⟨rc, hrc⟩ : ∃ z, rightE l = z := ⟨_, rfl⟩
  rw [hrc] at RTX0 RTE
  have t1 : (tb.toList == tb.toList) = true := beq_self_eq_true _
  have i1 : ((rc : Int) != (rc : Int)) = false := by simp
  have i2 : ((pf : Int) != (pf : Int)) = false := by simp
  have i3 : ((cd : Int) != (cd : Int)) = false := by simp
  have B0 : Hid (Below w.heap.size w w) := Lib.hid (Below.refl _ _)
  have A0 : Hid (Below w.heap.size w (w.alloc (.cells #[.slice a n c] 24))) := Lib.hid ((Below.refl _ _).alloc (Nat.le_refl _) _)
  have KE0 : Hid (Blk (w.alloc (.cells #[.slice a n c] 24)) w.heap.size 24 #[.slice a n c]) := Lib.hid (Blk.new _ _ _)
  have tok2 : True := trivial
  have tok3 : True := trivial
  have tok4 : True := trivial
  have tok5 : True := trivial
  have tok6 : True := trivial
  clear hs hok hfit hkf hm hp hg g1 PX QX hn hk5 hP htb hrc
  go_enter Tryd.func4, Tryd.ntmps4
  try dsimp only [List.append]
  go_wp2_with (first
      | (go_at_call 12
         go_must (refine (GRT.out _ (B0.out.trans (A0.out.mono B0.out.size))).mono ?_)
         rintro e w1 ⟨⟨g, rfl⟩, b1⟩
         have D1 := Lib.hid (A0.out.trans (b1.mono A0.out.size))
         have B1 := Lib.hid (B0.out.trans (D1.out.mono B0.out.size))
         have kE1 := KE0.out.below b1 KE0.out.lt
         have eE1 : w1.cell? ⟨w.heap.size, 0, none⟩ = some (.slice a n c) := kE1.cell (i := 0) rfl
         have lE1 := kE1.lt
         have KE1 := Lib.hid kE1
         have A1 := Lib.hid (Below.refl w1.heap.size w1)
         clear b1 kE1
         cases g)
      | (go_at_call 13
         have _t := tok2
         go_must (refine (TWC.out _ (B1.out.trans (A1.out.mono B1.out.size))).mono ?_)
         rintro e w2 ⟨v2, ns2, rfl, h2, m2, b2⟩
         have hr2 := h2.read
         rw [m2] at hr2
         obtain ⟨a2, c2, hv2, _⟩ := hr2.form
         subst hv2
         rw [HN.out]
         have D2 := Lib.hid (A1.out.trans (b2.mono A1.out.size))
         have B2 := Lib.hid (B1.out.trans (D2.out.mono B1.out.size))
         have kE2 := KE1.out.below b2 KE1.out.lt
         have eE2 : w2.cell? ⟨w.heap.size, 0, none⟩ = some (.slice a n c) := kE2.cell (i := 0) rfl
         have lE2 := kE2.lt
         have KE2 := Lib.hid (kE2.alloc (.cells #[.slice a2 n c2] 24))
         have A2 := Lib.hid ((Below.refl w2.heap.size w2).alloc (Nat.le_refl _) (.cells #[.slice a2 n c2] 24))
         have KX2 := Lib.hid (Blk.new w2 24 #[.slice a2 n c2])
         have SX2 := Lib.hid (HN.out ▸ hr2 : SlR w2 w2.heap.size 4 (ND.Is w2 w2.heap.size) (.slice a2 n c2) l)
         clear h2 m2 hr2
         clear b2 kE2 tok2 _t)
      | (go_at_call 14
         have _t := tok3
         go_must (refine (PRX.out _ _ (B2.out.trans (A2.out.mono B2.out.size)) (ndRead SX2.out A2.out)).mono ?_)
         rintro e w3 ⟨rfl, b3⟩
         have D3 := Lib.hid (A2.out.trans (b3.mono A2.out.size))
         have B3 := Lib.hid (B2.out.trans (D3.out.mono B2.out.size))
         have kE3 := KE2.out.below b3 KE2.out.lt
         have eE3 : w3.cell? ⟨w.heap.size, 0, none⟩ = some (.slice a n c) := kE3.cell (i := 0) rfl
         have lE3 := kE3.lt
         have KE3 := Lib.hid kE3
         have kX3 := KX2.out.below b3 KX2.out.lt
         have eX3 : w3.cell? ⟨w2.heap.size, 0, none⟩ = some (.slice a2 n c2) := kX3.cell (i := 0) rfl
         have lX3 := kX3.lt
         have KX3 := Lib.hid kX3
         have A3 := Lib.hid (Below.refl w3.heap.size w3)
         have SX3 := Lib.hid (ndRead SX2.out D3.out)
         clear b3 kE3 kX3 tok3 _t)
      | (go_at_call 15
         have _t := tok4
         go_must (refine (PRE.out _ (B3.out.trans (A3.out.mono B3.out.size))).mono ?_)
         rintro e w4 ⟨rfl, b4⟩
         have D4 := Lib.hid (A3.out.trans (b4.mono A3.out.size))
         have B4 := Lib.hid (B3.out.trans (D4.out.mono B3.out.size))
         have kE4 := KE3.out.below b4 KE3.out.lt
         have eE4 : w4.cell? ⟨w.heap.size, 0, none⟩ = some (.slice a n c) := kE4.cell (i := 0) rfl
         have lE4 := kE4.lt
         have KE4 := Lib.hid kE4
         have kX4 := KX3.out.below b4 KX3.out.lt
         have eX4 : w4.cell? ⟨w2.heap.size, 0, none⟩ = some (.slice a2 n c2) := kX4.cell (i := 0) rfl
         have lX4 := kX4.lt
         have KX4 := Lib.hid kX4
         have A4 := Lib.hid (Below.refl w4.heap.size w4)
         have SX4 := Lib.hid (ndRead SX3.out D4.out)
         clear b4 kE4 kX4 tok4 _t)
      | (go_at_call 16
         have _t := tok5
         go_must (refine (PPX.out _ _ (B4.out.trans (A4.out.mono B4.out.size)) (ndRead SX4.out A4.out)).mono ?_)
         rintro e w5 ⟨v5, ps5, rfl, h5, m5, b5⟩
         obtain ⟨a5, c5, hv5⟩ := h5.main.form
         subst hv5
         have n5 : ps5.length = k5 := by rw [← HK5.out, ← m5, List.length_map]
         rw [n5] at h5 ⊢
         have EP5 := Lib.hid h5
         have MP5 := Lib.hid m5
         have NP5 := Lib.hid n5
         have BP5 := Lib.hid b5
         have D5 := Lib.hid (A4.out.trans (b5.mono A4.out.size))
         have B5 := Lib.hid (B4.out.trans (D5.out.mono B4.out.size))
         have kE5 := KE4.out.below b5 KE4.out.lt
         have eE5 : w5.cell? ⟨w.heap.size, 0, none⟩ = some (.slice a n c) := kE5.cell (i := 0) rfl
         have lE5 := kE5.lt
         have KE5 := Lib.hid (kE5.alloc (.cells #[.slice a5 k5 c5] 24))
         have kX5 := KX4.out.below b5 KX4.out.lt
         have eX5 : w5.cell? ⟨w2.heap.size, 0, none⟩ = some (.slice a2 n c2) := kX5.cell (i := 0) rfl
         have lX5 := kX5.lt
         have KX5 := Lib.hid (kX5.alloc (.cells #[.slice a5 k5 c5] 24))
         have A5 := Lib.hid ((Below.refl w5.heap.size w5).alloc (Nat.le_refl _) (.cells #[.slice a5 k5 c5] 24))
         have KP5 := Lib.hid (Blk.new w5 24 #[.slice a5 k5 c5])
         clear h5 m5 n5
         clear b5 kE5 kX5 tok5 _t)
      | (go_at_call 17
         have _t := tok6
         go_must (refine (PPE.out _ (B5.out.trans (A5.out.mono B5.out.size))).mono ?_)
         rintro e w6 ⟨v6, rfl, h6, b6⟩
         obtain ⟨a6, c6, hv6, _⟩ := h6.form
         subst hv6
         rw [HK5.out]
         have SQ6 := Lib.hid (HK5.out ▸ h6 : SlR w6 w6.heap.size 4 (ENode.Is w6 w6.heap.size) (.slice a6 k5 c6) qs)
         have D6 := Lib.hid (A5.out.trans (b6.mono A5.out.size))
         have B6 := Lib.hid (B5.out.trans (D6.out.mono B5.out.size))
         have kE6 := KE5.out.below b6 KE5.out.lt
         have eE6 : w6.cell? ⟨w.heap.size, 0, none⟩ = some (.slice a n c) := kE6.cell (i := 0) rfl
         have lE6 := kE6.lt
         have KE6 := Lib.hid (kE6.alloc (.cells #[.slice a6 k5 c6] 24))
         have kX6 := KX5.out.below b6 KX5.out.lt
         have eX6 : w6.cell? ⟨w2.heap.size, 0, none⟩ = some (.slice a2 n c2) := kX6.cell (i := 0) rfl
         have lX6 := kX6.lt
         have KX6 := Lib.hid (kX6.alloc (.cells #[.slice a6 k5 c6] 24))
         have kP6 := KP5.out.below b6 KP5.out.lt
         have eP6 : w6.cell? ⟨w5.heap.size, 0, none⟩ = some (.slice a5 k5 c5) := kP6.cell (i := 0) rfl
         have lP6 := kP6.lt
         have KP6 := Lib.hid (kP6.alloc (.cells #[.slice a6 k5 c6] 24))
         have A6 := Lib.hid ((Below.refl w6.heap.size w6).alloc (Nat.le_refl _) (.cells #[.slice a6 k5 c6] 24))
         have KQ6 := Lib.hid (Blk.new w6 24 #[.slice a6 k5 c6])
         clear h6
         clear b6 kE6 kX6 kP6 tok6 _t))
  rotate_left
  · go_ret
    exact ⟨rfl, B1.out⟩
  generalize hw7 : World.alloc w6 _ = w7
  rw [hw7] at A6 KE6 KX6 KP6 KQ6
  have D67 := A6
  have HB7 : Hid (Below w.heap.size w w7) := Lib.hid (B6.out.trans (A6.out.mono B6.out.size))
  have S7X := Lib.hid (ndRead (ndRead (ndRead SX4.out D5.out) D6.out) A6.out)
  have S7Q := Lib.hid (enRead SQ6.out A6.out)
  have S7P := Lib.hid (enRead (enRead (by have := EP5.out.read; rw [MP5.out] at this; exact this : SlR w5 w5.heap.size 4 (ENode.Is w5 w5.heap.size) (.slice a5 k5 c5) qs) D6.out) A6.out)
  have RTX : Hid (∀ W, Below w7.heap.size w7 W → Calls Tryd.prog 18 #[.agg #[.slice a2 n c2]] W fun e w' => e = .returned (.int .i64 (rc : Int)) ∧ Below W.heap.size W w') := Lib.hid (fun W hW => RTX0.out W w7 _ HB7.out S7X.out hW)
  have SPQ : Hid (∀ W, Below w7.heap.size w7 W → Calls Tryd.prog 11 #[.agg #[.slice a5 k5 c5], .agg #[.slice a6 k5 c6]] W fun e w' => e = .returned (.bool true) ∧ Below W.heap.size W w') := Lib.hid (fun W hW => SPQ0.out W w7 _ _ (S7P.out.map_ EN.nd (fun x y h => ENode.nd h)) (S7Q.out.map_ EN.nd (fun x y h => ENode.nd h)) hW)
  have SXE : Hid (∀ W, Below w7.heap.size w7 W → Calls Tryd.prog 11 #[.agg #[.slice a2 n c2], .agg #[.slice a n c]] W fun e w' => e = .returned (.bool true) ∧ Below W.heap.size W w') := Lib.hid (fun W hW => SXE0.out W w7 _ HB7.out S7X.out hW)
  have kE : w7.cell? ⟨w.heap.size, 0, none⟩ = some (.slice a n c) := KE6.out.cell (i := 0) rfl
  have kX : w7.cell? ⟨w2.heap.size, 0, none⟩ = some (.slice a2 n c2) := KX6.out.cell (i := 0) rfl
  have kP : w7.cell? ⟨w5.heap.size, 0, none⟩ = some (.slice a5 k5 c5) := KP6.out.cell (i := 0) rfl
  have kQ : w7.cell? ⟨w6.heap.size, 0, none⟩ = some (.slice a6 k5 c6) := KQ6.out.cell (i := 0) rfl
  have keepS : ∀ {W : World}, Below w7.heap.size w7 W → (W.cell? ⟨w.heap.size, 0, none⟩ = some (.slice a n c) ∧ W.cell? ⟨w2.heap.size, 0, none⟩ = some (.slice a2 n c2) ∧ W.cell? ⟨w5.heap.size, 0, none⟩ = some (.slice a5 k5 c5) ∧ W.cell? ⟨w6.heap.size, 0, none⟩ = some (.slice a6 k5 c6)) := fun h => ⟨cell_keep h kE, cell_keep h kX, cell_keep h kP, cell_keep h kQ⟩
  have tokRX : True := trivial
  have tokRE : True := trivial
  have tokSP : True := trivial
  have tokSX : True := trivial
  clear hw7
  go_region_held3 (fun W => W.cell? ⟨w.heap.size, 0, none⟩ = some (.slice a n c) ∧ W.cell? ⟨w2.heap.size, 0, none⟩ = some (.slice a2 n c2) ∧ W.cell? ⟨w5.heap.size, 0, none⟩ = some (.slice a5 k5 c5) ∧ W.cell? ⟨w6.heap.size, 0, none⟩ = some (.slice a6 k5 c6))
    (first
      | go_keep
      | (have _k := KKRX; exact KKRX)
      | (have _k := KKRE; exact KKRE)
      | (have _k := KKSP; exact KKSP)
      | (have _k := KKSX; exact KKSX)
      | fail)
    (first
      | (go_at_call 18
         have _t := tokRX
         with_reducible refine (RTX.out _ (by first | exact BBRX.out | exact BBRE.out | exact BBSP.out | exact BBSX.out | exact BBRX.out.drew | exact BBRE.out.drew | exact BBSP.out.drew | exact BBSX.out.drew | exact Below.refl _ _ | exact (Below.refl _ _).drew | exact below_drewN (Below.refl _ _) _)).mono ?_
         rintro e wRX ⟨rfl, bRX⟩
         have BBRX : Hid (Below w7.heap.size w7 wRX) := Lib.hid (by first | exact BBRX.out.trans (bRX.mono BBRX.out.size) | exact BBRE.out.trans (bRX.mono BBRE.out.size) | exact BBSP.out.trans (bRX.mono BBSP.out.size) | exact BBSX.out.trans (bRX.mono BBSX.out.size) | exact BBRX.out.drew.trans (bRX.mono BBRX.out.size) | exact BBRE.out.drew.trans (bRX.mono BBRE.out.size) | exact BBSP.out.drew.trans (bRX.mono BBSP.out.size) | exact BBSX.out.drew.trans (bRX.mono BBSX.out.size) | exact ⟨bRX.os, bRX.tape, bRX.output, bRX.size, bRX.block⟩)
         have KKRX : wRX.cell? ⟨w.heap.size, 0, none⟩ = some (.slice a n c) ∧ wRX.cell? ⟨w2.heap.size, 0, none⟩ = some (.slice a2 n c2) ∧ wRX.cell? ⟨w5.heap.size, 0, none⟩ = some (.slice a5 k5 c5) ∧ wRX.cell? ⟨w6.heap.size, 0, none⟩ = some (.slice a6 k5 c6) := keepS BBRX.out
         clear bRX tokRX _t)
      | (go_at_call 19
         have _t := tokRE
         with_reducible refine (RTE.out _ (by first | exact HB7.out.trans (BBRX.out.mono HB7.out.size) | exact HB7.out.trans (BBRE.out.mono HB7.out.size) | exact HB7.out.trans (BBSP.out.mono HB7.out.size) | exact HB7.out.trans (BBSX.out.mono HB7.out.size) | exact (HB7.out.trans (BBRX.out.mono HB7.out.size)).drew | exact (HB7.out.trans (BBRE.out.mono HB7.out.size)).drew | exact (HB7.out.trans (BBSP.out.mono HB7.out.size)).drew | exact (HB7.out.trans (BBSX.out.mono HB7.out.size)).drew | exact HB7.out | exact HB7.out.drew | exact below_drewN HB7.out _)).mono ?_
         rintro e wRE ⟨rfl, bRE⟩
         have BBRE : Hid (Below w7.heap.size w7 wRE) := Lib.hid (by first | exact BBRX.out.trans (bRE.mono BBRX.out.size) | exact BBRE.out.trans (bRE.mono BBRE.out.size) | exact BBSP.out.trans (bRE.mono BBSP.out.size) | exact BBSX.out.trans (bRE.mono BBSX.out.size) | exact BBRX.out.drew.trans (bRE.mono BBRX.out.size) | exact BBRE.out.drew.trans (bRE.mono BBRE.out.size) | exact BBSP.out.drew.trans (bRE.mono BBSP.out.size) | exact BBSX.out.drew.trans (bRE.mono BBSX.out.size) | exact ⟨bRE.os, bRE.tape, bRE.output, bRE.size, bRE.block⟩)
         have KKRE : wRE.cell? ⟨w.heap.size, 0, none⟩ = some (.slice a n c) ∧ wRE.cell? ⟨w2.heap.size, 0, none⟩ = some (.slice a2 n c2) ∧ wRE.cell? ⟨w5.heap.size, 0, none⟩ = some (.slice a5 k5 c5) ∧ wRE.cell? ⟨w6.heap.size, 0, none⟩ = some (.slice a6 k5 c6) := keepS BBRE.out
         clear bRE tokRE _t)
      | (go_at_call 11
         have _t := tokSP
         with_reducible refine (SPQ.out _ (by first | exact BBRX.out | exact BBRE.out | exact BBSP.out | exact BBSX.out | exact BBRX.out.drew | exact BBRE.out.drew | exact BBSP.out.drew | exact BBSX.out.drew | exact Below.refl _ _ | exact (Below.refl _ _).drew | exact below_drewN (Below.refl _ _) _)).mono ?_
         rintro e wSP ⟨rfl, bSP⟩
         have BBSP : Hid (Below w7.heap.size w7 wSP) := Lib.hid (by first | exact BBRX.out.trans (bSP.mono BBRX.out.size) | exact BBRE.out.trans (bSP.mono BBRE.out.size) | exact BBSP.out.trans (bSP.mono BBSP.out.size) | exact BBSX.out.trans (bSP.mono BBSX.out.size) | exact BBRX.out.drew.trans (bSP.mono BBRX.out.size) | exact BBRE.out.drew.trans (bSP.mono BBRE.out.size) | exact BBSP.out.drew.trans (bSP.mono BBSP.out.size) | exact BBSX.out.drew.trans (bSP.mono BBSX.out.size) | exact ⟨bSP.os, bSP.tape, bSP.output, bSP.size, bSP.block⟩)
         have KKSP : wSP.cell? ⟨w.heap.size, 0, none⟩ = some (.slice a n c) ∧ wSP.cell? ⟨w2.heap.size, 0, none⟩ = some (.slice a2 n c2) ∧ wSP.cell? ⟨w5.heap.size, 0, none⟩ = some (.slice a5 k5 c5) ∧ wSP.cell? ⟨w6.heap.size, 0, none⟩ = some (.slice a6 k5 c6) := keepS BBSP.out
         clear bSP tokSP _t)
      | (go_at_call 11
         have _t := tokSX
         with_reducible refine (SXE.out _ (by first | exact BBRX.out | exact BBRE.out | exact BBSP.out | exact BBSX.out | exact BBRX.out.drew | exact BBRE.out.drew | exact BBSP.out.drew | exact BBSX.out.drew | exact Below.refl _ _ | exact (Below.refl _ _).drew | exact below_drewN (Below.refl _ _) _)).mono ?_
         rintro e wSX ⟨rfl, bSX⟩
         have BBSX : Hid (Below w7.heap.size w7 wSX) := Lib.hid (by first | exact BBRX.out.trans (bSX.mono BBRX.out.size) | exact BBRE.out.trans (bSX.mono BBRE.out.size) | exact BBSP.out.trans (bSX.mono BBSP.out.size) | exact BBSX.out.trans (bSX.mono BBSX.out.size) | exact BBRX.out.drew.trans (bSX.mono BBRX.out.size) | exact BBRE.out.drew.trans (bSX.mono BBRE.out.size) | exact BBSP.out.drew.trans (bSX.mono BBSP.out.size) | exact BBSX.out.drew.trans (bSX.mono BBSX.out.size) | exact ⟨bSX.os, bSX.tape, bSX.output, bSX.size, bSX.block⟩)
         have KKSX : wSX.cell? ⟨w.heap.size, 0, none⟩ = some (.slice a n c) ∧ wSX.cell? ⟨w2.heap.size, 0, none⟩ = some (.slice a2 n c2) ∧ wSX.cell? ⟨w5.heap.size, 0, none⟩ = some (.slice a5 k5 c5) ∧ wSX.cell? ⟨w6.heap.size, 0, none⟩ = some (.slice a6 k5 c6) := keepS BBSX.out
         clear bSX tokSX _t)
      | fail)
  have BS0 : Hid (Below w5.heap.size w5 wSX) := Lib.hid ((D6.out.trans (A6.out.mono D6.out.size)).trans (BBSX.out.mono (by have := D6.out.size; have := A6.out.size; omega)))
  have BW8 : Hid (Below w4.heap.size w4 wSX) := Lib.hid (BP5.out.trans (BS0.out.mono BP5.out.size))
  have ES := Lib.hid (EP5.out.below BS0.out)
  have KP8 := Lib.hid (KP6.out.below BBSX.out KP6.out.lt)
  clear KKSX keepS RTX SPQ SXE S7X S7Q S7P kE kX kP kQ
  try clear KKRX KKRE KKSP
  go_wp2_with fail
  by_cases hk0 : k5 = 0
  · subst hk0
    go_loopw [14, 15] (fun kv _ wr => kv = .int .i64 0 ∧ wSX = wr) (fun _ _ _ => 0)
    case atStart => exact ⟨rfl, rfl⟩
    case round =>
      obtain ⟨rfl, rfl⟩ := hrel
      have p0 : wSX.cell? ⟨w5.heap.size, 0, none⟩ = some (.slice a5 0 c5) := KP8.out.cell (i := 0) rfl
      have d0 : decide (((0 : Nat) : Int) < ((0 : Nat) : Int)) = false := by decide
      have BWf : Hid (Below w4.heap.size w4 wSX) := BW8
      have Bf : Hid (Below w.heap.size w wSX) := Lib.hid (B4.out.trans (BWf.out.mono B4.out.size))
      have SXf := Lib.hid (ndRead SX4.out BWf.out)
      have fE : wSX.cell? ⟨w.heap.size, 0, none⟩ = some (.slice a n c) := (KE4.out.below BWf.out KE4.out.lt).cell (i := 0) rfl
      have fX : wSX.cell? ⟨w2.heap.size, 0, none⟩ = some (.slice a2 n c2) := (KX4.out.below BWf.out KX4.out.lt).cell (i := 0) rfl
      have SF := Lib.hid (SXE0.out wSX wSX _ Bf.out SXf.out (Below.refl _ _))
      go_wp2_with (first
        | (go_at_call 11; refine SF.out.mono ?_; rintro e w9 ⟨rfl, b9⟩; have B9 := Lib.hid (Bf.out.trans (b9.mono Bf.out.size)); clear b9))
      go_ret
      exact ⟨rfl, B9.out⟩

  · have hk1 : 0 < k5 := by omega
    obtain ⟨g, hga, _, _, _, _⟩ := ES.out.main.at00 (by rw [NP5.out]; exact hk1) (by omega)
    subst hga
    have SP0 := Lib.hid (Spoil.of_EL ES.out)
    obtain ⟨ks, hks⟩ : ∃ z, ps5.map (·.2) = z := ⟨_, rfl⟩
    rw [hks] at SP0
    clear hks
    go_loopw [14, 15] (fun kv _ wr => ∃ k : Nat, k ≤ k5 ∧ kv = .int .i64 (k : Int) ∧ Hid (Spoil wr w4.heap.size g k5 ks) ∧ Hid (Blk wr w5.heap.size 24 #[.slice (some ⟨g, 0, none⟩) k5 c5]) ∧ Hid (Below w4.heap.size w4 wr)) (fun kv _ _ => k5 - (intOf kv).toNat)
    case atStart => exact ⟨0, Nat.zero_le _, rfl, SP0, KP8, BW8⟩
    case round =>
      obtain ⟨k, hk, rfl, HSP, HKP, HBW⟩ := hrel
      clear SP0 KP8 BW8 ES BS0 BBSX
      try clear BBRX BBRE BBSP
      obtain ⟨wo, hwo⟩ : ∃ W, W = wr := ⟨wr, rfl⟩
      subst hwo
      have k0 : (0 : Int) ≤ (k : Int) := Int.natCast_nonneg _
      have k6 : (k : Int) ≤ 256 := by omega
      by_cases hlt : k < k5
      · obtain ⟨u, hu⟩ := get_some HSP.out.len hlt
        obtain ⟨ka, kn, kc, rfl, hkn, hroom⟩ := HSP.out.kids k u hu
        have kn63 : (kn : Int) ≤ 9223372036854775807 := by unfold maxLen at hkn; omega
        have p0 : wo.cell? ⟨w5.heap.size, 0, none⟩ = some (.slice (some ⟨g, 0, none⟩) k5 c5) := HKP.out.cell (i := 0) rfl
        have kin : (k : Int) < (k5 : Int) := by omega
        have HU := Lib.hid hu
        have HR := Lib.hid hroom
        clear hu hroom hkn
        go_wp2_with fail
        go_hide hQ
        go_loopw [15] (fun jv wr => ∃ j : Nat, j ≤ kn ∧ jv = .int .i64 (j : Int) ∧ Hid (Spoil wr w4.heap.size g k5 ks) ∧ Hid (Blk wr w5.heap.size 24 #[.slice (some ⟨g, 0, none⟩) k5 c5]) ∧ Hid (Below w4.heap.size w4 wr)) (fun jv _ => kn - (intOf jv).toNat)
        case atStart => exact ⟨0, Nat.zero_le _, rfl, HSP, HKP, HBW⟩
        case round =>
          obtain ⟨j, hj, rfl, HSP2, HKP2, HBW2⟩ := hrel
          obtain ⟨wi, hwi⟩ : ∃ W, W = wr := ⟨wr, rfl⟩
          subst hwi
          have j0 : (0 : Int) ≤ (j : Int) := Int.natCast_nonneg _
          have q0 : wi.cell? ⟨w5.heap.size, 0, none⟩ = some (.slice (some ⟨g, 0, none⟩) k5 c5) := HKP2.out.cell (i := 0) rfl
          have q3 : wi.cell? ⟨g, k * 4 + 3, none⟩ = some (.slice ka kn kc) := HSP2.out.at3 HU.out
          have lg := HSP2.out.room.lt
          have lp := HKP2.out.lt
          by_cases hjl : j < kn
          · obtain ⟨ka2, kn2, kc2, he, _, hr2⟩ := HSP2.out.kids k _ HU.out
            injection he with he1 he2 he3
            subst he1 he2 he3
            obtain ⟨b, rfl, hbB, hrm⟩ := hr2 (by omega)
            obtain ⟨u0, hu0⟩ := hrm.get hjl
            have fz := hrm.froz j
            have lb := hrm.lt
            have HRM := Lib.hid hrm
            have HBB := Lib.hid hbB
            have jin : (j : Int) < (kn : Int) := by omega
            clear hr2 hrm hbB
            go_wp2_with fail
            go_roundw
            case rel => exact ⟨j + 1, by omega, by go_num, Lib.hid (HSP2.out.kid HRM.out j _), Lib.hid (HKP2.out.far (p := ⟨b, j, none⟩) (Room.ne ⟨_, HKP2.out, Nat.le_refl _⟩ HRM.out (by decide)) _), Lib.hid (HBW2.out.setCell (p := ⟨b, j, none⟩) HBB.out _)⟩
            case measure => simp [intOf]; omega
          · obtain rfl : j = kn := by omega
            have djj : decide (j < j) = false := by simp
            obtain ⟨u0, hu0⟩ := HSP2.out.room.get (i := k * 4) (by omega)
            have fz := HSP2.out.room.froz (k * 4)
            clear hjl
            subst hQ
            go_wp2_with fail
            go_roundw
            case rel => exact ⟨k + 1, by omega, by go_num, Lib.hid (HSP2.out.kind k _), Lib.hid (HKP2.out.far (p := ⟨g, k * 4, none⟩) (Room.ne ⟨_, HKP2.out, Nat.le_refl _⟩ HSP2.out.room (by decide)) _), Lib.hid (HBW2.out.setCell (p := ⟨g, k * 4, none⟩) HSP2.out.low _)⟩
            case measure => simp [intOf]; omega
      · obtain rfl : k = k5 := by omega
        have djj : decide (k < k) = false := by simp
        have p0 : wo.cell? ⟨w5.heap.size, 0, none⟩ = some (.slice (some ⟨g, 0, none⟩) k c5) := HKP.out.cell (i := 0) rfl
        clear hlt
        have BWf : Hid (Below w4.heap.size w4 wo) := HBW
        have Bf : Hid (Below w.heap.size w wo) := Lib.hid (B4.out.trans (BWf.out.mono B4.out.size))
        have SXf := Lib.hid (ndRead SX4.out BWf.out)
        have fE : wo.cell? ⟨w.heap.size, 0, none⟩ = some (.slice a n c) := (KE4.out.below BWf.out KE4.out.lt).cell (i := 0) rfl
        have fX : wo.cell? ⟨w2.heap.size, 0, none⟩ = some (.slice a2 n c2) := (KX4.out.below BWf.out KX4.out.lt).cell (i := 0) rfl
        have SF := Lib.hid (SXE0.out wo wo _ Bf.out SXf.out (Below.refl _ _))
        go_wp2_with (first
          | (go_at_call 11; refine SF.out.mono ?_; rintro e w9 ⟨rfl, b9⟩; have B9 := Lib.hid (Bf.out.trans (b9.mono Bf.out.size)); clear b9))
        go_ret
        exact ⟨rfl, B9.out⟩

end Go.Proofs.YtlenenfgedgmhaaDoor
