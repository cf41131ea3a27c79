/- The law's walk: 'topiarylaw04.LangSame' returns true whatever the two definitions; no condition but the reach. -/
import Derived.Test.YtdhljfblkidohaaEqF
import Derived.Test.YtdhljfblkidohaaEqC
import Derived.Test.YtdhljfblkidohaaGr
import Derived.Test.YtdhljfblkidohaaTn2
import Derived.Deep.RegionHeld3
namespace Go.Proofs.Ytdhljfblkidohaa
open Go.RowKit

theorem Language.Is.shape {w : World} {B : Nat} (x : List Value) (d : Language) (h : Language.Is w B x d) : ∃ (e0 : ByteArray) (e1 : Int) (e2 : Option Addr) (en2 ec2 : Nat) (e3 : Option Addr) (en3 ec3 : Nat) (e4 : Option Addr) (en4 ec4 : Nat) (e5 : Option Addr) (en5 ec5 : Nat) (e6 : Option Addr) (en6 ec6 : Nat) (e7 : Option Addr) (en7 ec7 : Nat), x = [.string e0, .int .i64 e1, .slice e2 en2 ec2, .slice e3 en3 ec3, .slice e4 en4 ec4, .slice e5 en5 ec5, .slice e6 en6 ec6, .slice e7 en7 ec7] := by
  obtain ⟨v2, v3, v4, v5, v6, v7, rfl, h2, h3, h4, h5, h6, h7, _⟩ := h
  obtain ⟨_, _, _, rfl⟩ := h2.form'
  obtain ⟨_, _, _, rfl⟩ := h3.form'
  obtain ⟨_, _, _, rfl⟩ := h4.form'
  obtain ⟨_, _, _, rfl⟩ := h5.form'
  obtain ⟨_, _, _, rfl⟩ := h6.form'
  obtain ⟨_, _, _, rfl⟩ := h7.form'
  exact ⟨_, _, _, _, _, _, _, _, _, _, _, _, _, _, _, _, _, _, _, _, rfl⟩

theorem copy_right {x : List Value} {a : Language} (w w0 : World) (hx : Language.Is w0 w0.heap.size x a) (hw : Below w0.heap.size w0 w) :
    Calls Try.prog 8 #[.agg x.toArray] w fun e w' => ∃ x' : List Value, e = .returned (.agg x'.toArray) ∧ (∀ W2, Below w'.heap.size w' W2 → Calls Try.prog 6 #[.agg x.toArray, .agg x'.toArray] W2 fun e w2 => e = .returned (.bool true) ∧ Below W2.heap.size W2 w2) ∧ Below w.heap.size w w' := by
  refine (twin_any w w0 hx hw).mono ?_
  rintro e w' ⟨x', rfl, hown, hb⟩
  have hb0 : Below w0.heap.size w0 w' := hw.trans (hb.mono hw.size)
  refine ⟨x', rfl, fun W2 hW2 => ?_, hb⟩
  have h1 : Language.Is w' w'.heap.size x a := hx.keep (fun p hp => hb0.cell hp) hb0.size
  refine (same_Language W2 w' h1 hown.is hW2).mono ?_
  rintro e w2 ⟨rfl, h⟩
  exact ⟨by simp, h⟩
theorem copy_left {x : List Value} {a : Language} (w w0 : World) (hx : Language.Is w0 w0.heap.size x a) (hw : Below w0.heap.size w0 w) :
    Calls Try.prog 8 #[.agg x.toArray] w fun e w' => ∃ x' : List Value, e = .returned (.agg x'.toArray) ∧ (∀ W2, Below w'.heap.size w' W2 → Calls Try.prog 6 #[.agg x'.toArray, .agg x.toArray] W2 fun e w2 => e = .returned (.bool true) ∧ Below W2.heap.size W2 w2) ∧ Below w.heap.size w w' := by
  refine (twin_any w w0 hx hw).mono ?_
  rintro e w' ⟨x', rfl, hown, hb⟩
  have hb0 : Below w0.heap.size w0 w' := hw.trans (hb.mono hw.size)
  refine ⟨x', rfl, fun W2 hW2 => ?_, hb⟩
  have h1 : Language.Is w' w'.heap.size x a := hx.keep (fun p hp => hb0.cell hp) hb0.size
  refine (same_Language W2 w' hown.is h1 hW2).mono ?_
  rintro e w2 ⟨rfl, h⟩
  exact ⟨by simp, h⟩

/-- what the walk knows of the boxes -/
def Boxes (w' : World) (g : Nat) (X Y : Array Value) : Prop := Blk w' g 29 X ∧ Blk w' (g + 1) 29 Y
theorem Boxes.below {w1 w2 : World} {g : Nat} {X Y : Array Value} (h : Boxes w1 g X Y) (hb : Below w1.heap.size w1 w2) : Boxes w2 g X Y := ⟨h.1.below hb h.1.lt, h.2.below hb h.2.lt⟩
theorem cells16 {w' : World} {g : Nat} {x0 y0 x1 y1 x2 y2 x3 y3 x4 y4 x5 y5 x6 y6 x7 y7 : Value} (h : Boxes w' g #[x0, x1, x2, x3, x4, x5, x6, x7] #[y0, y1, y2, y3, y4, y5, y6, y7]) :
    w'.cell? ⟨g, 0, none⟩ = some x0 ∧ w'.cell? ⟨g, 1, none⟩ = some x1 ∧ w'.cell? ⟨g, 2, none⟩ = some x2 ∧ w'.cell? ⟨g, 3, none⟩ = some x3 ∧ w'.cell? ⟨g, 4, none⟩ = some x4 ∧ w'.cell? ⟨g, 5, none⟩ = some x5 ∧ w'.cell? ⟨g, 6, none⟩ = some x6 ∧ w'.cell? ⟨g, 7, none⟩ = some x7 ∧ w'.cell? ⟨g + 1, 0, none⟩ = some y0 ∧ w'.cell? ⟨g + 1, 1, none⟩ = some y1 ∧ w'.cell? ⟨g + 1, 2, none⟩ = some y2 ∧ w'.cell? ⟨g + 1, 3, none⟩ = some y3 ∧ w'.cell? ⟨g + 1, 4, none⟩ = some y4 ∧ w'.cell? ⟨g + 1, 5, none⟩ = some y5 ∧ w'.cell? ⟨g + 1, 6, none⟩ = some y6 ∧ w'.cell? ⟨g + 1, 7, none⟩ = some y7 :=
  ⟨h.1.cell (i := 0) rfl, h.1.cell (i := 1) rfl, h.1.cell (i := 2) rfl, h.1.cell (i := 3) rfl, h.1.cell (i := 4) rfl, h.1.cell (i := 5) rfl, h.1.cell (i := 6) rfl, h.1.cell (i := 7) rfl, h.2.cell (i := 0) rfl, h.2.cell (i := 1) rfl, h.2.cell (i := 2) rfl, h.2.cell (i := 3) rfl, h.2.cell (i := 4) rfl, h.2.cell (i := 5) rfl, h.2.cell (i := 6) rfl, h.2.cell (i := 7) rfl⟩

set_option maxHeartbeats 4000000 in
set_option maxRecDepth 100000 in
theorem law_bool {x y : List Value} {a b : Language} (bb : Bool) (w : World) (hx : Language.Is w w.heap.size x a) (hy : Language.Is w w.heap.size y b) (hab : decide (a = b) = bb) :
    Calls Try.prog 3 #[.agg x.toArray, .agg y.toArray] w fun e w' => e = .returned (.bool true) ∧ Below w.heap.size w w' := by
  have hba : decide (b = a) = bb := by rw [← hab]; exact decide_eq_decide.2 ⟨fun h => h.symm, fun h => h.symm⟩
  have G1 : Hid (∀ W, Below w.heap.size w W → Calls Try.prog 5 #[.agg x.toArray] W (SomeBool W)) := Lib.hid (fun W hW => great_any W w hx hW)
  have G2 : Hid (∀ W, Below w.heap.size w W → Calls Try.prog 5 #[.agg y.toArray] W (SomeBool W)) := Lib.hid (fun W hW => great_any W w hy hW)
  have C1 : Hid (∀ W, Below w.heap.size w W → Calls Try.prog 6 #[.agg x.toArray, .agg y.toArray] W fun e w' => e = .returned (.bool bb) ∧ Below W.heap.size W w') := Lib.hid (fun W hW => by have := same_Language W w hx hy hW; rw [hab] at this; exact this)
  have C3 : Hid (∀ W, Below w.heap.size w W → Calls Try.prog 6 #[.agg y.toArray, .agg x.toArray] W fun e w' => e = .returned (.bool bb) ∧ Below W.heap.size W w') := Lib.hid (fun W hW => by have := same_Language W w hy hx hW; rw [hba] at this; exact this)
  have C2 : Hid (∀ W, Below w.heap.size w W → Calls Try.prog 7 #[.agg x.toArray, .agg y.toArray] W fun e w' => e = .returned (.bool bb) ∧ Below W.heap.size W w') := Lib.hid (fun W hW => by have := ref_same W w hx hy hW; rw [hab] at this; exact this)
  have T1 : Hid (∀ W, Below w.heap.size w W → Calls Try.prog 8 #[.agg x.toArray] W fun e w' => ∃ x' : List Value, e = .returned (.agg x'.toArray) ∧ (∀ W2, Below w'.heap.size w' W2 → Calls Try.prog 6 #[.agg x.toArray, .agg x'.toArray] W2 fun e w2 => e = .returned (.bool true) ∧ Below W2.heap.size W2 w2) ∧ Below W.heap.size W w') := Lib.hid (fun W hW => copy_right W w hx hW)
  have T2 : Hid (∀ W, Below w.heap.size w W → Calls Try.prog 8 #[.agg y.toArray] W fun e w' => ∃ x' : List Value, e = .returned (.agg x'.toArray) ∧ (∀ W2, Below w'.heap.size w' W2 → Calls Try.prog 6 #[.agg x'.toArray, .agg y.toArray] W2 fun e w2 => e = .returned (.bool true) ∧ Below W2.heap.size W2 w2) ∧ Below W.heap.size W w') := Lib.hid (fun W hW => copy_left W w hy hW)
  clear hab hba
  obtain ⟨a0, a1, a2, an2, ac2, a3, an3, ac3, a4, an4, ac4, a5, an5, ac5, a6, an6, ac6, a7, an7, ac7, rfl⟩ := Language.Is.shape _ _ hx
  obtain ⟨b0, b1, b2, bn2, bc2, b3, bn3, bc3, b4, bn4, bc4, b5, bn5, bc5, b6, bn6, bc6, b7, bn7, bc7, rfl⟩ := Language.Is.shape _ _ hy
  clear hx hy
  have tokA : True := trivial
  have tokB : True := trivial
  have tok1 : True := trivial
  have tok2 : True := trivial
  have tok3 : True := trivial
  have tok4 : True := trivial
  have tok5 : True := trivial
  have tok6 : True := trivial
  have tok7 : True := trivial
  have tok8 : True := trivial
  have H0 : Hid (Below w.heap.size w ((w.alloc (.cells #[.string a0, .int .i64 a1, .slice a2 an2 ac2, .slice a3 an3 ac3, .slice a4 an4 ac4, .slice a5 an5 ac5, .slice a6 an6 ac6, .slice a7 an7 ac7] 29)).alloc (.cells #[.string b0, .int .i64 b1, .slice b2 bn2 bc2, .slice b3 bn3 bc3, .slice b4 bn4 bc4, .slice b5 bn5 bc5, .slice b6 bn6 bc6, .slice b7 bn7 bc7] 29))) := Lib.hid (((Below.refl w.heap.size w).alloc (Nat.le_refl _) _).alloc (below2 (Nat.le_refl _)) _)
  have K0 : Hid (Boxes ((w.alloc (.cells #[.string a0, .int .i64 a1, .slice a2 an2 ac2, .slice a3 an3 ac3, .slice a4 an4 ac4, .slice a5 an5 ac5, .slice a6 an6 ac6, .slice a7 an7 ac7] 29)).alloc (.cells #[.string b0, .int .i64 b1, .slice b2 bn2 bc2, .slice b3 bn3 bc3, .slice b4 bn4 bc4, .slice b5 bn5 bc5, .slice b6 bn6 bc6, .slice b7 bn7 bc7] 29)) w.heap.size #[.string a0, .int .i64 a1, .slice a2 an2 ac2, .slice a3 an3 ac3, .slice a4 an4 ac4, .slice a5 an5 ac5, .slice a6 an6 ac6, .slice a7 an7 ac7] #[.string b0, .int .i64 b1, .slice b2 bn2 bc2, .slice b3 bn3 bc3, .slice b4 bn4 bc4, .slice b5 bn5 bc5, .slice b6 bn6 bc6, .slice b7 bn7 bc7]) := Lib.hid ⟨(Blk.new w 29 #[.string a0, .int .i64 a1, .slice a2 an2 ac2, .slice a3 an3 ac3, .slice a4 an4 ac4, .slice a5 an5 ac5, .slice a6 an6 ac6, .slice a7 an7 ac7]).alloc (.cells #[.string b0, .int .i64 b1, .slice b2 bn2 bc2, .slice b3 bn3 bc3, .slice b4 bn4 bc4, .slice b5 bn5 bc5, .slice b6 bn6 bc6, .slice b7 bn7 bc7] 29), Blk.new_ (w := w.alloc (.cells #[.string a0, .int .i64 a1, .slice a2 an2 ac2, .slice a3 an3 ac3, .slice a4 an4 ac4, .slice a5 an5 ac5, .slice a6 an6 ac6, .slice a7 an7 ac7] 29)) (by rw [World.size_alloc]) 29 #[.string b0, .int .i64 b1, .slice b2 bn2 bc2, .slice b3 bn3 bc3, .slice b4 bn4 bc4, .slice b5 bn5 bc5, .slice b6 bn6 bc6, .slice b7 bn7 bc7]⟩
  go_enter Try.func3, Try.ntmps3
  try dsimp only [List.append]
  go_wp2_with (first
    | (go_at_call 5; have _t := tokA; refine (G1.out _ H0.out).mono ?_; rintro e w1 ⟨g1, rfl, hb⟩; have HA : Hid (Below w.heap.size w w1) := Lib.hid (H0.out.trans (hb.mono H0.out.size)); have KA : Hid (Boxes w1 w.heap.size #[.string a0, .int .i64 a1, .slice a2 an2 ac2, .slice a3 an3 ac3, .slice a4 an4 ac4, .slice a5 an5 ac5, .slice a6 an6 ac6, .slice a7 an7 ac7] #[.string b0, .int .i64 b1, .slice b2 bn2 bc2, .slice b3 bn3 bc3, .slice b4 bn4 bc4, .slice b5 bn5 bc5, .slice b6 bn6 bc6, .slice b7 bn7 bc7]) := Lib.hid (K0.out.below hb); clear tokA _t hb; obtain ⟨ca0, ca1, ca2, ca3, ca4, ca5, ca6, ca7, cb0, cb1, cb2, cb3, cb4, cb5, cb6, cb7⟩ := cells16 KA.out; cases g1)
    | (go_at_call 5; have _t := tokB; refine (G2.out _ HA.out).mono ?_; rintro e w2 ⟨g2, rfl, hb⟩; have HB : Hid (Below w.heap.size w w2) := Lib.hid (HA.out.trans (hb.mono HA.out.size)); have KB : Hid (Boxes w2 w.heap.size #[.string a0, .int .i64 a1, .slice a2 an2 ac2, .slice a3 an3 ac3, .slice a4 an4 ac4, .slice a5 an5 ac5, .slice a6 an6 ac6, .slice a7 an7 ac7] #[.string b0, .int .i64 b1, .slice b2 bn2 bc2, .slice b3 bn3 bc3, .slice b4 bn4 bc4, .slice b5 bn5 bc5, .slice b6 bn6 bc6, .slice b7 bn7 bc7]) := Lib.hid (KA.out.below hb); clear tokB _t hb; clear ca0 ca1 ca2 ca3 ca4 ca5 ca6 ca7 cb0 cb1 cb2 cb3 cb4 cb5 cb6 cb7; obtain ⟨ca0, ca1, ca2, ca3, ca4, ca5, ca6, ca7, cb0, cb1, cb2, cb3, cb4, cb5, cb6, cb7⟩ := cells16 KB.out; cases g2))
  rotate_left
  · go_ret
    exact ⟨rfl, HB.out⟩
  · go_ret
    exact ⟨rfl, HA.out⟩
  have H1 : Hid (Below w.heap.size w w2.drew) := Lib.hid HB.out.drew
  have K1 : Hid (Boxes w2.drew w.heap.size #[.string a0, .int .i64 a1, .slice a2 an2 ac2, .slice a3 an3 ac3, .slice a4 an4 ac4, .slice a5 an5 ac5, .slice a6 an6 ac6, .slice a7 an7 ac7] #[.string b0, .int .i64 b1, .slice b2 bn2 bc2, .slice b3 bn3 bc3, .slice b4 bn4 bc4, .slice b5 bn5 bc5, .slice b6 bn6 bc6, .slice b7 bn7 bc7]) := Lib.hid KB.out
  cases bb
  all_goals
    go_region_held3 (fun w' => w'.cell? ⟨w.heap.size, 0, none⟩ = some (.string a0) ∧ w'.cell? ⟨w.heap.size, 1, none⟩ = some (.int .i64 a1) ∧ w'.cell? ⟨w.heap.size, 2, none⟩ = some (.slice a2 an2 ac2) ∧ w'.cell? ⟨w.heap.size, 3, none⟩ = some (.slice a3 an3 ac3) ∧ w'.cell? ⟨w.heap.size, 4, none⟩ = some (.slice a4 an4 ac4) ∧ w'.cell? ⟨w.heap.size, 5, none⟩ = some (.slice a5 an5 ac5) ∧ w'.cell? ⟨w.heap.size, 6, none⟩ = some (.slice a6 an6 ac6) ∧ w'.cell? ⟨w.heap.size, 7, none⟩ = some (.slice a7 an7 ac7) ∧ w'.cell? ⟨w.heap.size + 1, 0, none⟩ = some (.string b0) ∧ w'.cell? ⟨w.heap.size + 1, 1, none⟩ = some (.int .i64 b1) ∧ w'.cell? ⟨w.heap.size + 1, 2, none⟩ = some (.slice b2 bn2 bc2) ∧ w'.cell? ⟨w.heap.size + 1, 3, none⟩ = some (.slice b3 bn3 bc3) ∧ w'.cell? ⟨w.heap.size + 1, 4, none⟩ = some (.slice b4 bn4 bc4) ∧ w'.cell? ⟨w.heap.size + 1, 5, none⟩ = some (.slice b5 bn5 bc5) ∧ w'.cell? ⟨w.heap.size + 1, 6, none⟩ = some (.slice b6 bn6 bc6) ∧ w'.cell? ⟨w.heap.size + 1, 7, none⟩ = some (.slice b7 bn7 bc7))
      (first
        | go_keep
        | (have _k := K9; exact cells16 K9.out)
        | (have _k := K8; exact cells16 K8.out)
        | (have _k := K7; exact cells16 K7.out)
        | (have _k := K6; exact cells16 K6.out)
        | (have _k := K5; exact cells16 K5.out)
        | (have _k := K4; exact cells16 K4.out)
        | (have _k := K3; exact cells16 K3.out)
        | (have _k := K2; exact cells16 K2.out)
        | (have _k := K1; exact cells16 K1.out)
        | fail)
      (first
        | (go_at_call 6; have _t := tok1; refine (C1.out _ H1.out).mono ?_; rintro e v1 ⟨rfl, hb1⟩; have H2 : Hid (Below w.heap.size w v1) := Lib.hid (H1.out.trans (hb1.mono H1.out.size)); have K2 : Hid (Boxes v1 w.heap.size #[.string a0, .int .i64 a1, .slice a2 an2 ac2, .slice a3 an3 ac3, .slice a4 an4 ac4, .slice a5 an5 ac5, .slice a6 an6 ac6, .slice a7 an7 ac7] #[.string b0, .int .i64 b1, .slice b2 bn2 bc2, .slice b3 bn3 bc3, .slice b4 bn4 bc4, .slice b5 bn5 bc5, .slice b6 bn6 bc6, .slice b7 bn7 bc7]) := Lib.hid (K1.out.below hb1); clear tok1 _t hb1)
        | (go_at_call 7; have _t := tok2; refine (C2.out _ H2.out).mono ?_; rintro e v2 ⟨rfl, hb2⟩; have H3 : Hid (Below w.heap.size w v2) := Lib.hid (H2.out.trans (hb2.mono H2.out.size)); have K3 : Hid (Boxes v2 w.heap.size #[.string a0, .int .i64 a1, .slice a2 an2 ac2, .slice a3 an3 ac3, .slice a4 an4 ac4, .slice a5 an5 ac5, .slice a6 an6 ac6, .slice a7 an7 ac7] #[.string b0, .int .i64 b1, .slice b2 bn2 bc2, .slice b3 bn3 bc3, .slice b4 bn4 bc4, .slice b5 bn5 bc5, .slice b6 bn6 bc6, .slice b7 bn7 bc7]) := Lib.hid (K2.out.below hb2); clear tok2 _t hb2)
        | (go_at_call 6; have _t := tok3; refine (C3.out _ H3.out).mono ?_; rintro e v3 ⟨rfl, hb3⟩; have H4 : Hid (Below w.heap.size w v3) := Lib.hid (H3.out.trans (hb3.mono H3.out.size)); have K4 : Hid (Boxes v3 w.heap.size #[.string a0, .int .i64 a1, .slice a2 an2 ac2, .slice a3 an3 ac3, .slice a4 an4 ac4, .slice a5 an5 ac5, .slice a6 an6 ac6, .slice a7 an7 ac7] #[.string b0, .int .i64 b1, .slice b2 bn2 bc2, .slice b3 bn3 bc3, .slice b4 bn4 bc4, .slice b5 bn5 bc5, .slice b6 bn6 bc6, .slice b7 bn7 bc7]) := Lib.hid (K3.out.below hb3); clear tok3 _t hb3)
        | (go_at_call 7; have _t := tok4; refine (C2.out _ H4.out).mono ?_; rintro e v4 ⟨rfl, hb4⟩; have H5 : Hid (Below w.heap.size w v4) := Lib.hid (H4.out.trans (hb4.mono H4.out.size)); have K5 : Hid (Boxes v4 w.heap.size #[.string a0, .int .i64 a1, .slice a2 an2 ac2, .slice a3 an3 ac3, .slice a4 an4 ac4, .slice a5 an5 ac5, .slice a6 an6 ac6, .slice a7 an7 ac7] #[.string b0, .int .i64 b1, .slice b2 bn2 bc2, .slice b3 bn3 bc3, .slice b4 bn4 bc4, .slice b5 bn5 bc5, .slice b6 bn6 bc6, .slice b7 bn7 bc7]) := Lib.hid (K4.out.below hb4); clear tok4 _t hb4)
        | (go_at_call 8; have _t := tok5; refine (T1.out _ H5.out).mono ?_; rintro e v5 ⟨z5, rfl, hs5, hb5⟩; have H6 : Hid (Below w.heap.size w v5) := Lib.hid (H5.out.trans (hb5.mono H5.out.size)); have K6 : Hid (Boxes v5 w.heap.size #[.string a0, .int .i64 a1, .slice a2 an2 ac2, .slice a3 an3 ac3, .slice a4 an4 ac4, .slice a5 an5 ac5, .slice a6 an6 ac6, .slice a7 an7 ac7] #[.string b0, .int .i64 b1, .slice b2 bn2 bc2, .slice b3 bn3 bc3, .slice b4 bn4 bc4, .slice b5 bn5 bc5, .slice b6 bn6 bc6, .slice b7 bn7 bc7]) := Lib.hid (K5.out.below hb5); have Z5 := Lib.hid hs5; clear tok5 _t hb5 hs5)
        | (go_at_call 6; have _t := tok6; have _u := Z5; refine (Z5.out _ (Below.refl _ _)).mono ?_; rintro e v6 ⟨rfl, hb6⟩; have H7 : Hid (Below w.heap.size w v6) := Lib.hid (H6.out.trans (hb6.mono H6.out.size)); have K7 : Hid (Boxes v6 w.heap.size #[.string a0, .int .i64 a1, .slice a2 an2 ac2, .slice a3 an3 ac3, .slice a4 an4 ac4, .slice a5 an5 ac5, .slice a6 an6 ac6, .slice a7 an7 ac7] #[.string b0, .int .i64 b1, .slice b2 bn2 bc2, .slice b3 bn3 bc3, .slice b4 bn4 bc4, .slice b5 bn5 bc5, .slice b6 bn6 bc6, .slice b7 bn7 bc7]) := Lib.hid (K6.out.below hb6); clear tok6 _t _u hb6)
        | (go_at_call 8; have _t := tok7; refine (T2.out _ H7.out).mono ?_; rintro e v7 ⟨z7, rfl, hs7, hb7⟩; have H8 : Hid (Below w.heap.size w v7) := Lib.hid (H7.out.trans (hb7.mono H7.out.size)); have K8 : Hid (Boxes v7 w.heap.size #[.string a0, .int .i64 a1, .slice a2 an2 ac2, .slice a3 an3 ac3, .slice a4 an4 ac4, .slice a5 an5 ac5, .slice a6 an6 ac6, .slice a7 an7 ac7] #[.string b0, .int .i64 b1, .slice b2 bn2 bc2, .slice b3 bn3 bc3, .slice b4 bn4 bc4, .slice b5 bn5 bc5, .slice b6 bn6 bc6, .slice b7 bn7 bc7]) := Lib.hid (K7.out.below hb7); have Z7 := Lib.hid hs7; clear tok7 _t hb7 hs7)
        | (go_at_call 6; have _t := tok8; have _u := Z7; refine (Z7.out _ (Below.refl _ _)).mono ?_; rintro e v8 ⟨rfl, hb8⟩; have H9 : Hid (Below w.heap.size w v8) := Lib.hid (H8.out.trans (hb8.mono H8.out.size)); have K9 : Hid (Boxes v8 w.heap.size #[.string a0, .int .i64 a1, .slice a2 an2 ac2, .slice a3 an3 ac3, .slice a4 an4 ac4, .slice a5 an5 ac5, .slice a6 an6 ac6, .slice a7 an7 ac7] #[.string b0, .int .i64 b1, .slice b2 bn2 bc2, .slice b3 bn3 bc3, .slice b4 bn4 bc4, .slice b5 bn5 bc5, .slice b6 bn6 bc6, .slice b7 bn7 bc7]) := Lib.hid (K8.out.below hb8); clear tok8 _t _u hb8)
        | fail)
    go_wp2_with fail
    go_ret
    exact ⟨rfl, H9.out⟩
theorem law_walk {x y : List Value} {a b : Language} (w : World) (hx : Language.Is w w.heap.size x a) (hy : Language.Is w w.heap.size y b) :
    Calls Try.prog 3 #[.agg x.toArray, .agg y.toArray] w fun e w' => e = .returned (.bool true) ∧ Below w.heap.size w w' := law_bool _ w hx hy rfl

end Go.Proofs.Ytdhljfblkidohaa
