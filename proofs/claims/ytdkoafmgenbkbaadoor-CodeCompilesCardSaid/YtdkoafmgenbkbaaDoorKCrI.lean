/- Taken over out of another chapter (its text CrI): what is needed here. -/
import Derived.Test.YtdkoafmgenbkbaaDoorProg
import Derived.Test.YtdkoafmgenbkbaaDoorShelf
import Derived.Test.YtdkoafmgenbkbaaDoorCards
import Derived.Test.YtdkoafmgenbkbaaDoorTie
import Derived.Test.YtdkoafmgenbkbaaDoorKM1
import Derived.Test.YtdkoafmgenbkbaaDoorKM4
import Derived.Test.YtdkoafmgenbkbaaDoorKM2
import Derived.Test.YtdkoafmgenbkbaaDoorKM3
import Derived.Test.YtdkoafmgenbkbaaDoorKM5
import Derived.Test.YtdkoafmgenbkbaaDoorKCrH
import Derived.Below
import Derived.BigQuiet
import Derived.BigRegion
import Derived.Deep.AppendLies
import Derived.Deep.CutBlock
import Derived.Deep.CutRange
import Derived.Deep.Draws
import Derived.Deep.Fields
import Derived.Deep.LoopGhost
import Derived.Deep.QuietTactic
import Derived.Deep.RegionHeld2
import Derived.Deep.RegionHeld3
import Derived.Deep.RegionLaw
import Derived.Deep.Slices
import Derived.Defers
import Derived.IntWalk
import Derived.Laws.BytesString
import Derived.Laws.Cover1
import Derived.Laws.EntriesVeiled
import Derived.Laws.IdiomStrings
import Derived.Laws.MakeOwn
import Derived.Laws.OwnMore
import Derived.Laws.Pointers
import Derived.Laws.Rows
import Derived.Lib.AppendStr
import Derived.Lib.Builder
import Derived.Lib.CutLaws
import Derived.Lib.FrozenHead
import Derived.Lib.Hide
import Derived.Lib.ItoaNum
import Derived.Lib.ParseIntB
import Derived.Lib.SliceRun
import Derived.Lib.SlicesS
import Derived.Maps.AppendAt
import Derived.Orders
import Derived.Outline
import Derived.OwnWalk
import Derived.ProofKit
import Derived.Recover
import Derived.RegionTactic
import Derived.StillTailTactics
import Derived.Tactics
import Derived.Tactics2
import Derived.WalkKit
import Derived.WalkMore
import Derived.WalkSmall
import Derived.WalkSpells
namespace Go.Proofs.YtdkoafmgenbkbaaDoor
set_option linter.unusedSimpArgs false
set_option linter.unusedVariables false
open Go.RowKit
theorem ndReadC {X Y : World} {v : Value} {l : List ND} (h : SlR X X.heap.size 4 (ND.Is X X.heap.size) v l) (hb : Below X.heap.size X Y) : SlR Y Y.heap.size 4 (ND.Is Y Y.heap.size) v l :=
  ((h.below hb).more hb.size).imp (fun x y h => ND.more (ND.keep h hb) hb.size)
/-- what both Compiles come to -/
def CompK (w : World) (o : List Ins) (r : Nat) (e : Ending) (w' : World) : Prop := ∃ ov, e = .returned (.tuple #[.agg #[ov], .int .i64 (r : Int)]) ∧ Own1 w' w.heap.size 46 4 Ins.Is ov o ∧ Below w.heap.size w w'
theorem comp_both {l : List ND} (hok : ∀ d ∈ l, NdOk d) : ∃ (o : List Ins) (r : Nat), o.length ≤ 1024 ∧ (∀ (w w0 : World) (v : Value), SlR w0 w0.heap.size 4 (ND.Is w0 w0.heap.size) v l → Marks w0 → Pow w0 → Below w0.heap.size w0 w → Calls Tryd.prog 12 #[.agg #[v]] w (CompK w o r)) ∧ (∀ (w w0 : World) (v : Value), SlR w0 w0.heap.size 4 (ND.Is w0 w0.heap.size) v l → Below w0.heap.size w0 w → Calls Tryd.prog 13 #[.agg #[v]] w (CompK w o r)) := by
  by_cases hr : rightE l = 0
  · obtain ⟨t, tg, td, ts, hl, _⟩ := right_tree hok hr
    refine ⟨codeT t, 0, by have := cR_len 32 t [] 1; unfold codeT; omega, fun w w0 v hs hm hp hw => ?_, fun w w0 v hs hw => ?_⟩
    · exact (compile_ok w w0 (hl ▸ hs) (hl ▸ hok) hm hp hw tg td ts).mono fun e w' h => h
    · exact (rcompile_ok w w0 (hl ▸ hs) (hl ▸ hok) hw tg td ts).mono fun e w' h => h
  · refine ⟨[], rightE l, by simp, fun w w0 v hs hm hp hw => ?_, fun w w0 v hs hw => ?_⟩
    · exact (compile_bad w w0 hs hok hm hp hw hr).mono fun e w' h => ⟨_, h.1, own1_nil _ _ _ _ _, h.2⟩
    · exact (rcompile_bad w w0 hs hok hw hr).mono fun e w' h => ⟨_, h.1, own1_nil _ _ _ _ _, h.2⟩
/-- the block of a row that is not empty -/
theorem Own1.blk {α : Type} {w : World} {base size n c : Nat} {e : TypeId} {R : List Value → α → Prop} {a : Option Addr} {l : List α} (h : Own1 w base e size R (.slice a n c) l) : n = 0 ∨ ∃ g cs, a = some ⟨g, 0, none⟩ ∧ base ≤ g ∧ g < w.heap.size ∧ Blk w g e cs ∧ n * size ≤ cs.size := by
  obtain ⟨xs, ⟨h1, h2⟩, h3, h4⟩ := h
  rcases h2 with ⟨h2, h5⟩ | ⟨g, cap, cur, r1, r2, r3, r4, r5, r6, r7⟩
  · left
    injection h2
  · right
    injection r1 with e1 e2 e3
    have hb : Blk w g e cur := r3
    refine ⟨g, cur, e1, r2, hb.lt, hb, ?_⟩
    rw [e2, r6]
    exact Nat.mul_le_mul_right _ r4
/-- while the first row's elements are overwritten: what stays -/
structure Over (w2 w5 wr : World) (C : Nat) (ac : Option Addr) (nc c4 : Nat) (vc vd : Value) (ad4 : Nat) (dv : Value) (o : List Ins) (bd : Nat) : Prop where
  bel : Below C w5 wr
  row : nc = 0 ∨ ∃ g cs, ac = some ⟨g, 0, none⟩ ∧ C ≤ g ∧ g < c4 ∧ Blk wr g 46 cs ∧ nc * 4 ≤ cs.size
  cb : Blk wr c4 24 #[vc]
  db : Blk wr ad4 24 #[vd]
  drow : Own1 wr bd 46 4 Ins.Is dv o
  lt4 : c4 < ad4
  ltd : c4 < bd
theorem Over.store {w2 w5 wr : World} {C nc c4 ad4 bd : Nat} {ac : Option Addr} {vc vd dv : Value} {o : List Ins} {g : Nat} (h : Over w2 w5 wr C ac nc c4 vc vd ad4 dv o bd) {cs : Array Value} (hg : ac = some ⟨g, 0, none⟩) (hC : C ≤ g) (hg4 : g < c4) (hb : Blk wr g 46 cs) (hsz : nc * 4 ≤ cs.size) (i : Nat) (u : Value) :
    Over w2 w5 (wr.setCell ⟨g, i, none⟩ u) C ac nc c4 vc vd ad4 dv o bd ∧ ∃ cs', Blk (wr.setCell ⟨g, i, none⟩ u) g 46 cs' ∧ nc * 4 ≤ cs'.size := by
  have h2 := hb.set_ i u
  refine ⟨⟨h.bel.setCell (p := ⟨g, i, none⟩) hC u, .inr ⟨g, _, hg, hC, hg4, h2, by rw [Array.size_setIfInBounds]; exact hsz⟩, h.cb.far (p := ⟨g, i, none⟩) (by show c4 ≠ g; omega) u, h.db.far (p := ⟨g, i, none⟩) (by have := h.lt4; show ad4 ≠ g; omega) u, h.drow.setOther (p := ⟨g, i, none⟩) (fun e => by have := (h.drow.block g e).1; have := h.ltd; omega) u, h.lt4, h.ltd⟩, _, h2, by rw [Array.size_setIfInBounds]; exact hsz⟩
set_option maxRecDepth 100000 in
set_option maxHeartbeats 8000000 in
theorem lawCp {l : List ND} {v : Value} (w : World) (hs : SlR w w.heap.size 4 (ND.Is w w.heap.size) v l) (hok : ∀ d ∈ l, NdOk d) (hfit : l.length * 56 ≤ 140737488355328) (hkf : ∀ d ∈ l, d.kids.length * 8 ≤ 140737488355328) (hm : Marks w) (hp : Pow w) :
    Calls Tryd.prog 4 #[.agg #[v]] w fun e w' => e = .returned (.bool true) ∧ Below w.heap.size w w' := by
  obtain ⟨o, r, ho1, PC, RC⟩ := comp_both hok
  have TW := Lib.hid (fun W (hW : Below w.heap.size w W) => twin8 W w hs hfit hkf hW)
  obtain ⟨a, c, rfl⟩ : ∃ a c, v = .slice a l.length c := by obtain ⟨a, c, h, _⟩ := hs.form; exact ⟨a, c, h⟩
  obtain ⟨n, hn⟩ : ∃ n, l.length = n := ⟨_, rfl⟩
  rw [hn] at hs TW ⊢
  obtain ⟨nc, hnc⟩ : ∃ n, o.length = n := ⟨_, rfl⟩
  have HN := Lib.hid hn
  have HNC := Lib.hid hnc
  have nc1 : nc ≤ 1024 := by omega
  have HS := Lib.hid hs
  have HM := Lib.hid (And.intro hm hp)
  have PCX := Lib.hid PC
  have RCX := Lib.hid RC
  have q2 : ((r : Int) != (r : Int)) = false := by simp
  clear hs hfit hkf hm hp PC RC hn hnc ho1 hok
  go_enter Tryd.func4, Tryd.ntmps4
  go_upto_region 1 with fail
  have Kew1 : Hid (Blk (w.alloc (.cells #[.slice a n c] 38)) w.heap.size 38 #[.slice a n c]) := Lib.hid (Blk.new _ _ _)
  have B1 : Hid (Below w.heap.size w (w.alloc (.cells #[.slice a n c] 38))) := Lib.hid ((Below.refl _ _).alloc (Nat.le_refl _) _)
  generalize w.alloc (.cells #[.slice a n c] 38) = w1 at *
  have ee : w1.cell? ⟨w.heap.size, 0, none⟩ = some (.slice a n c) := Kew1.out.cell rfl
  have le : w.heap.size < w1.heap.size := Kew1.out.lt
  have tokT : True := trivial
  go_upto_region 2 with (first
    | (have _t := tokT; go_at_call 11; go_must (refine (TW.out _ B1.out).mono ?_); clear tokT _t
       rintro e w2 ⟨v2, ns2, rfl, h2, m2, b2⟩
       go_must (have hr2 := h2.read)
       rw [m2] at hr2
       obtain ⟨a2, c2, hv2, _⟩ := hr2.form
       subst hv2
       rw [HN.out] at hr2 ⊢
       go_must (have SX2 := Lib.hid hr2)
       go_must (have B2 := Lib.hid (B1.out.trans (b2.mono B1.out.size)))
       clear ee le
       go_must (have Kew2 : Hid (Blk w2 w.heap.size 38 #[.slice a n c]) := Lib.hid (by have h := Kew1.out; exact h.below b2 h.lt))
       go_must (have ee : (w2).cell? ⟨w.heap.size, 0, none⟩ = some (.slice a n c) := Kew2.out.cell rfl)
       go_must (have le : w.heap.size < (w2).heap.size := Kew2.out.lt)
       clear b2 h2 m2 hr2)
    | fail)
  clear ee le
  have KxW2 : Hid (Blk (w2.alloc (.cells #[.slice a2 n c2] 38)) w2.heap.size 38 #[.slice a2 n c2]) := Lib.hid (Blk.new _ _ _)
  have KeW2 : Hid (Blk (w2.alloc (.cells #[.slice a2 n c2] 38)) w.heap.size 38 #[.slice a n c]) := Lib.hid (Kew2.out.alloc _)
  have AW2 : Hid (Below w2.heap.size w2 (w2.alloc (.cells #[.slice a2 n c2] 38))) := Lib.hid ((Below.refl _ _).alloc (Nat.le_refl _) _)
  have hzW2 : w2.heap.size < (w2.alloc (.cells #[.slice a2 n c2] 38)).heap.size := by simp
  generalize w2.alloc (.cells #[.slice a2 n c2] 38) = W2 at *
  have ee : W2.cell? ⟨w.heap.size, 0, none⟩ = some (.slice a n c) := KeW2.out.cell rfl
  have le : w.heap.size < W2.heap.size := KeW2.out.lt
  have ex : W2.cell? ⟨w2.heap.size, 0, none⟩ = some (.slice a2 n c2) := KxW2.out.cell rfl
  have lx : w2.heap.size < W2.heap.size := KxW2.out.lt
  have tokC : True := trivial
  go_upto_region 3 with (first
    | (have _t := tokC; go_at_call 12; go_must (refine (PCX.out W2 w2 _ SX2.out (HM.out.1.below B2.out) (HM.out.2.below B2.out) AW2.out).mono ?_); clear tokC _t
       rintro e w3 ⟨ov, rfl, hk1, hk2⟩
       obtain ⟨ac, cc, rfl⟩ := hk1.form
       rw [HNC.out] at hk1 ⊢
       go_must (have OC := Lib.hid hk1)
       go_must (have b3 := hk2)
       clear ee le ex lx
       go_must (have Kew3 : Hid (Blk w3 w.heap.size 38 #[.slice a n c]) := Lib.hid (by have h := KeW2.out; exact h.below b3 h.lt))
       go_must (have ee : (w3).cell? ⟨w.heap.size, 0, none⟩ = some (.slice a n c) := Kew3.out.cell rfl)
       go_must (have le : w.heap.size < (w3).heap.size := Kew3.out.lt)
       go_must (have Kxw3 : Hid (Blk w3 w2.heap.size 38 #[.slice a2 n c2]) := Lib.hid (by have h := KxW2.out; exact h.below b3 h.lt))
       go_must (have ex : (w3).cell? ⟨w2.heap.size, 0, none⟩ = some (.slice a2 n c2) := Kxw3.out.cell rfl)
       go_must (have lx : w2.heap.size < (w3).heap.size := Kxw3.out.lt)
       go_must (have B3 := Lib.hid (B2.out.trans ((AW2.out.trans (b3.mono AW2.out.size)).mono B2.out.size)))
       go_must (have D3 := Lib.hid b3)
       go_must (have hz3 := b3.size)
       clear hk1 hk2 b3)
    | fail)
  clear ee le ex lx
  have KcW3 : Hid (Blk (w3.alloc (.cells #[.slice ac nc cc] 24)) w3.heap.size 24 #[.slice ac nc cc]) := Lib.hid (Blk.new _ _ _)
  have KeW3 : Hid (Blk (w3.alloc (.cells #[.slice ac nc cc] 24)) w.heap.size 38 #[.slice a n c]) := Lib.hid (Kew3.out.alloc _)
  have KxW3 : Hid (Blk (w3.alloc (.cells #[.slice ac nc cc] 24)) w2.heap.size 38 #[.slice a2 n c2]) := Lib.hid (Kxw3.out.alloc _)
  have AW3 : Hid (Below w3.heap.size w3 (w3.alloc (.cells #[.slice ac nc cc] 24))) := Lib.hid ((Below.refl _ _).alloc (Nat.le_refl _) _)
  have hzW3 : w3.heap.size < (w3.alloc (.cells #[.slice ac nc cc] 24)).heap.size := by simp
  generalize w3.alloc (.cells #[.slice ac nc cc] 24) = W3 at *
  have ee : W3.cell? ⟨w.heap.size, 0, none⟩ = some (.slice a n c) := KeW3.out.cell rfl
  have le : w.heap.size < W3.heap.size := KeW3.out.lt
  have ex : W3.cell? ⟨w2.heap.size, 0, none⟩ = some (.slice a2 n c2) := KxW3.out.cell rfl
  have lx : w2.heap.size < W3.heap.size := KxW3.out.lt
  have ec : W3.cell? ⟨w3.heap.size, 0, none⟩ = some (.slice ac nc cc) := KcW3.out.cell rfl
  have lc : w3.heap.size < W3.heap.size := KcW3.out.lt
  have tokD : True := trivial
  go_upto_region 4 with (first
    | (have _t := tokD; go_at_call 13; go_must (refine (RCX.out W3 w _ HS.out (B3.out.trans (AW3.out.mono B3.out.size))).mono ?_); clear tokD _t
       rintro e w4 ⟨ov, rfl, hk1, hk2⟩
       obtain ⟨ad, cd, rfl⟩ := hk1.form
       rw [HNC.out] at hk1 ⊢
       go_must (have OD := Lib.hid hk1)
       go_must (have b4 := hk2)
       clear ee le ex lx ec lc
       go_must (have Kew4 : Hid (Blk w4 w.heap.size 38 #[.slice a n c]) := Lib.hid (by have h := KeW3.out; exact h.below b4 h.lt))
       go_must (have ee : (w4).cell? ⟨w.heap.size, 0, none⟩ = some (.slice a n c) := Kew4.out.cell rfl)
       go_must (have le : w.heap.size < (w4).heap.size := Kew4.out.lt)
       go_must (have Kxw4 : Hid (Blk w4 w2.heap.size 38 #[.slice a2 n c2]) := Lib.hid (by have h := KxW3.out; exact h.below b4 h.lt))
       go_must (have ex : (w4).cell? ⟨w2.heap.size, 0, none⟩ = some (.slice a2 n c2) := Kxw4.out.cell rfl)
       go_must (have lx : w2.heap.size < (w4).heap.size := Kxw4.out.lt)
       go_must (have Kcw4 : Hid (Blk w4 w3.heap.size 24 #[.slice ac nc cc]) := Lib.hid (by have h := KcW3.out; exact h.below b4 h.lt))
       go_must (have ec : (w4).cell? ⟨w3.heap.size, 0, none⟩ = some (.slice ac nc cc) := Kcw4.out.cell rfl)
       go_must (have lc : w3.heap.size < (w4).heap.size := Kcw4.out.lt)
       go_must (have D4 := Lib.hid b4)
       go_must (have hz4 := b4.size)
       clear hk1 hk2 b4)
    | fail)
  clear ee le ex lx ec lc
  have KdW4 : Hid (Blk (w4.alloc (.cells #[.slice ad nc cd] 24)) w4.heap.size 24 #[.slice ad nc cd]) := Lib.hid (Blk.new _ _ _)
  have KeW4 : Hid (Blk (w4.alloc (.cells #[.slice ad nc cd] 24)) w.heap.size 38 #[.slice a n c]) := Lib.hid (Kew4.out.alloc _)
  have KxW4 : Hid (Blk (w4.alloc (.cells #[.slice ad nc cd] 24)) w2.heap.size 38 #[.slice a2 n c2]) := Lib.hid (Kxw4.out.alloc _)
  have KcW4 : Hid (Blk (w4.alloc (.cells #[.slice ad nc cd] 24)) w3.heap.size 24 #[.slice ac nc cc]) := Lib.hid (Kcw4.out.alloc _)
  have AW4 : Hid (Below w4.heap.size w4 (w4.alloc (.cells #[.slice ad nc cd] 24))) := Lib.hid ((Below.refl _ _).alloc (Nat.le_refl _) _)
  have hzW4 : w4.heap.size < (w4.alloc (.cells #[.slice ad nc cd] 24)).heap.size := by simp
  generalize w4.alloc (.cells #[.slice ad nc cd] 24) = W4 at *
  have ee : W4.cell? ⟨w.heap.size, 0, none⟩ = some (.slice a n c) := KeW4.out.cell rfl
  have le : w.heap.size < W4.heap.size := KeW4.out.lt
  have ex : W4.cell? ⟨w2.heap.size, 0, none⟩ = some (.slice a2 n c2) := KxW4.out.cell rfl
  have lx : w2.heap.size < W4.heap.size := KxW4.out.lt
  have ec : W4.cell? ⟨w3.heap.size, 0, none⟩ = some (.slice ac nc cc) := KcW4.out.cell rfl
  have lc : w3.heap.size < W4.heap.size := KcW4.out.lt
  have ed : W4.cell? ⟨w4.heap.size, 0, none⟩ = some (.slice ad nc cd) := KdW4.out.cell rfl
  have ld : w4.heap.size < W4.heap.size := KdW4.out.lt
  have B34 : Hid (Below w3.heap.size w3 W4) := Lib.hid (AW3.out.trans ((D4.out.trans (AW4.out.mono D4.out.size)).mono AW3.out.size))
  have B4 : Hid (Below w.heap.size w W4) := Lib.hid (B3.out.trans (B34.out.mono B3.out.size))
  have B24 : Hid (Below w2.heap.size w2 W4) := Lib.hid ((AW2.out.trans (D3.out.mono AW2.out.size)).trans (B34.out.mono (by omega)))
  have SC4 : Hid (SlR W4 W4.heap.size 4 Ins.Is (.slice ac nc cc) o) := Lib.hid ((OC.out.below B34.out (Nat.le_refl _)).read (by decide))
  have OD4 : Hid (Own1 W4 W3.heap.size 46 4 Ins.Is (.slice ad nc cd) o) := Lib.hid (OD.out.below AW4.out (Nat.le_refl _))
  have SD4 : Hid (SlR W4 W4.heap.size 4 Ins.Is (.slice ad nc cd) o) := Lib.hid (OD4.out.read (by decide))
  have SX4 : Hid (SlR W4 W4.heap.size 4 (ND.Is W4 W4.heap.size) (.slice a2 n c2) l) := Lib.hid (ndReadC SX2.out B24.out)
  have SE4 : Hid (SlR W4 W4.heap.size 4 (ND.Is W4 W4.heap.size) (.slice a n c) l) := Lib.hid (ndReadC HS.out B4.out)
  have SM : Hid (∀ W, Below W4.heap.size W4 W → Calls Tryd.prog 10 #[.agg #[.slice ac nc cc], .agg #[.slice ad nc cd]] W fun e w' => e = .returned (.bool true) ∧ Below W.heap.size W w') := Lib.hid (fun W hW => by have := rsame_any W W4 SC4.out SD4.out hW; simpa using this)
  have SN : Hid (∀ W, Below W4.heap.size W4 W → Calls Tryd.prog 14 #[.agg #[.slice a2 n c2], .agg #[.slice a n c]] W fun e w' => e = .returned (.bool true) ∧ Below W.heap.size W w') := Lib.hid (fun W hW => by have := ref8_any W W4 SX4.out SE4.out hW; simpa using this)
  have tokS : True := trivial
  have tokN : True := trivial
  go_upto_region 6 with (first
    | (have _t := tokS; go_at_call 10; go_must (refine (SM.out W4 (Below.refl _ _)).mono ?_); clear tokS _t
       rintro e w5 ⟨rfl, b5⟩
       clear ee le ex lx ec lc ed ld
       go_must (have Kew5 : Hid (Blk w5 w.heap.size 38 #[.slice a n c]) := Lib.hid (by have h := KeW4.out; exact h.below b5 h.lt))
       go_must (have ee : (w5).cell? ⟨w.heap.size, 0, none⟩ = some (.slice a n c) := Kew5.out.cell rfl)
       go_must (have le : w.heap.size < (w5).heap.size := Kew5.out.lt)
       go_must (have Kxw5 : Hid (Blk w5 w2.heap.size 38 #[.slice a2 n c2]) := Lib.hid (by have h := KxW4.out; exact h.below b5 h.lt))
       go_must (have ex : (w5).cell? ⟨w2.heap.size, 0, none⟩ = some (.slice a2 n c2) := Kxw5.out.cell rfl)
       go_must (have lx : w2.heap.size < (w5).heap.size := Kxw5.out.lt)
       go_must (have Kcw5 : Hid (Blk w5 w3.heap.size 24 #[.slice ac nc cc]) := Lib.hid (by have h := KcW4.out; exact h.below b5 h.lt))
       go_must (have ec : (w5).cell? ⟨w3.heap.size, 0, none⟩ = some (.slice ac nc cc) := Kcw5.out.cell rfl)
       go_must (have lc : w3.heap.size < (w5).heap.size := Kcw5.out.lt)
       go_must (have Kdw5 : Hid (Blk w5 w4.heap.size 24 #[.slice ad nc cd]) := Lib.hid (by have h := KdW4.out; exact h.below b5 h.lt))
       go_must (have ed : (w5).cell? ⟨w4.heap.size, 0, none⟩ = some (.slice ad nc cd) := Kdw5.out.cell rfl)
       go_must (have ld : w4.heap.size < (w5).heap.size := Kdw5.out.lt)
       go_must (have D5 := Lib.hid b5)
       go_must (have hz5 := b5.size)
       clear b5)
    | (have _t := tokN; go_at_call 14; go_must (refine (SN.out w5 D5.out).mono ?_); clear tokN _t
       rintro e w6 ⟨rfl, b6⟩
       clear ee le ex lx ec lc ed ld
       go_must (have Kew6 : Hid (Blk w6 w.heap.size 38 #[.slice a n c]) := Lib.hid (by have h := Kew5.out; exact h.below b6 h.lt))
       go_must (have ee : (w6).cell? ⟨w.heap.size, 0, none⟩ = some (.slice a n c) := Kew6.out.cell rfl)
       go_must (have le : w.heap.size < (w6).heap.size := Kew6.out.lt)
       go_must (have Kxw6 : Hid (Blk w6 w2.heap.size 38 #[.slice a2 n c2]) := Lib.hid (by have h := Kxw5.out; exact h.below b6 h.lt))
       go_must (have ex : (w6).cell? ⟨w2.heap.size, 0, none⟩ = some (.slice a2 n c2) := Kxw6.out.cell rfl)
       go_must (have lx : w2.heap.size < (w6).heap.size := Kxw6.out.lt)
       go_must (have Kcw6 : Hid (Blk w6 w3.heap.size 24 #[.slice ac nc cc]) := Lib.hid (by have h := Kcw5.out; exact h.below b6 h.lt))
       go_must (have ec : (w6).cell? ⟨w3.heap.size, 0, none⟩ = some (.slice ac nc cc) := Kcw6.out.cell rfl)
       go_must (have lc : w3.heap.size < (w6).heap.size := Kcw6.out.lt)
       go_must (have Kdw6 : Hid (Blk w6 w4.heap.size 24 #[.slice ad nc cd]) := Lib.hid (by have h := Kdw5.out; exact h.below b6 h.lt))
       go_must (have ed : (w6).cell? ⟨w4.heap.size, 0, none⟩ = some (.slice ad nc cd) := Kdw6.out.cell rfl)
       go_must (have ld : w4.heap.size < (w6).heap.size := Kdw6.out.lt)
       go_must (have D6 := Lib.hid (D5.out.trans (b6.mono D5.out.size)))
       go_must (have hz6 := b6.size)
       clear b6)
    | fail)
  have OV : Hid (Over w2 w6 w6 W2.heap.size ac nc w3.heap.size (.slice ac nc cc) (.slice ad nc cd) w4.heap.size (.slice ad nc cd) o W3.heap.size) := Lib.hid ⟨Below.refl _ _, by
      rcases (OC.out.below (B34.out.trans (D6.out.mono B34.out.size)) (Nat.le_refl _)).blk with h | ⟨g, cs, h1, h2, h3, h4, h5⟩
      · exact .inl h
      · exact .inr ⟨g, cs, h1, h2, (OC.out.block g (by rw [h1]; rfl)).2, h4, h5⟩, Kcw6.out, Kdw6.out, OD4.out.below D6.out (Nat.le_refl _), by omega, by omega⟩
  clear ee le ex lx ec lc ed ld
  have hlc := Nat.lt_of_lt_of_le (show w3.heap.size < W3.heap.size by omega) hz4
  go_wp2_with fail
  go_loopw [8] (fun v8 wr => ∃ i : Nat, i ≤ nc ∧ v8 = .int .i64 (i : Int) ∧ Hid (Over w2 w6 wr W2.heap.size ac nc w3.heap.size (.slice ac nc cc) (.slice ad nc cd) w4.heap.size (.slice ad nc cd) o W3.heap.size)) (fun v8 _ => nc - (intOf v8).toNat)
  case atStart => exact ⟨0, Nat.zero_le _, rfl, OV⟩
  case round =>
    obtain ⟨i, hi, rfl, hov⟩ := hrel
    have ec : wr.cell? ⟨w3.heap.size, 0, none⟩ = some (.slice ac nc cc) := hov.out.cb.cell rfl
    by_cases hlt : i < nc
    · rcases hov.out.row with h0 | ⟨g, cs, rfl, h2, h3, h4, h5⟩
      · omega
      · have i0 : (0 : Int) ≤ (i : Int) := Int.natCast_nonneg _
        have i1 : (i : Int) < (nc : Int) := by omega
        have H45 := Lib.hid (And.intro h4 h5)
        have fz := h4.frozen
        obtain ⟨u0, hu0⟩ : ∃ u, cs[i * 4]? = some u := ⟨cs[i * 4]'(by omega), Array.getElem?_eq_getElem _⟩
        obtain ⟨u1, hu1⟩ : ∃ u, cs[i * 4 + 1]? = some u := ⟨cs[i * 4 + 1]'(by omega), Array.getElem?_eq_getElem _⟩
        obtain ⟨u2, hu2⟩ : ∃ u, cs[i * 4 + 2]? = some u := ⟨cs[i * 4 + 2]'(by omega), Array.getElem?_eq_getElem _⟩
        obtain ⟨u3, hu3⟩ : ∃ u, cs[i * 4 + 3]? = some u := ⟨cs[i * 4 + 3]'(by omega), Array.getElem?_eq_getElem _⟩
        have y0 : wr.cell? ⟨g, i * 4, none⟩ = some u0 := h4.cell hu0
        have y1 : wr.cell? ⟨g, i * 4 + 1, none⟩ = some u1 := h4.cell hu1
        have y2 : wr.cell? ⟨g, i * 4 + 2, none⟩ = some u2 := h4.cell hu2
        have y3 : wr.cell? ⟨g, i * 4 + 3, none⟩ = some u3 := h4.cell hu3
        have z0 : wr.frozen? ⟨g, i * 4, none⟩ = false := fz _
        have z1 : wr.frozen? ⟨g, i * 4 + 1, none⟩ = false := fz _
        have z2 : wr.frozen? ⟨g, i * 4 + 2, none⟩ = false := fz _
        have z3 : wr.frozen? ⟨g, i * 4 + 3, none⟩ = false := fz _
        clear h4 h5 hu0 hu1 hu2 hu3 fz
        go_wp2_with fail
        go_roundw
        case rel =>
          obtain ⟨o1, c1, b1, s1⟩ := hov.out.store rfl h2 h3 H45.out.1 H45.out.2 (i * 4) (.int .i64 (-1))
          obtain ⟨o2, c2, b2, s2⟩ := o1.store rfl h2 h3 b1 s1 (i * 4 + 1) (.int .i64 0)
          obtain ⟨o3, c3, b3, s3⟩ := o2.store rfl h2 h3 b2 s2 (i * 4 + 2) (.int .i64 0)
          obtain ⟨o4, c4, b4, s4⟩ := o3.store rfl h2 h3 b3 s3 (i * 4 + 3) (.string ⟨#[]⟩)
          exact ⟨i + 1, by omega, by go_num, Lib.hid o4⟩
        case measure => simp [intOf]; omega
    · have hin : i = nc := by omega
      subst hin
      have hlx : w2.heap.size < W2.heap.size := by omega
      have Kxr : Hid (Blk wr w2.heap.size 38 #[.slice a2 n c2]) := Lib.hid (Kxw6.out.below hov.out.bel hlx)
      have ex : wr.cell? ⟨w2.heap.size, 0, none⟩ = some (.slice a2 n c2) := Kxr.out.cell rfl
      have Br : Hid (Below w2.heap.size w2 wr) := Lib.hid ((B24.out.trans (D6.out.mono B24.out.size)).trans (hov.out.bel.mono (by omega)))
      have tokC2 : True := trivial
      have tokS2 : True := trivial
      clear hlt hi
      go_upto_region 11 with (first
        | (have _t := tokC2; go_at_call 12; go_must (refine (PCX.out wr w2 _ SX2.out (HM.out.1.below B2.out) (HM.out.2.below B2.out) Br.out).mono ?_); clear tokC2 _t
           rintro e w7 ⟨ov, rfl, hk1, hk2⟩
           obtain ⟨aa, ca, rfl⟩ := hk1.form
           rw [HNC.out] at hk1 ⊢
           go_must (have OA := Lib.hid hk1)
           go_must (have B7 := Lib.hid hk2)
           go_must (have OD7 := Lib.hid (hov.out.drow.below hk2 (Nat.le_refl _)))
           go_must (have Kd7 := Lib.hid (hov.out.db.below hk2 hov.out.db.lt))
           clear hk1 hk2)
        | fail)
      have AO : Hid (Blk (w7.alloc (.cells #[.slice aa i ca] 24)) w7.heap.size 24 #[.slice aa i ca]) := Lib.hid (Blk.new _ _ _)
      have DB7 : Hid (Blk (w7.alloc (.cells #[.slice aa i ca] 24)) w4.heap.size 24 #[.slice ad i cd]) := Lib.hid (Kd7.out.alloc _)
      have SA7 := Lib.hid ((OA.out.alloc (.cells #[.slice aa i ca] 24)).read (by decide))
      have SD7 := Lib.hid ((OD7.out.alloc (.cells #[.slice aa i ca] 24)).read (by decide))
      have BB7 : Hid (Below wr.heap.size wr (w7.alloc (.cells #[.slice aa i ca] 24))) := Lib.hid (B7.out.alloc B7.out.size _)
      generalize w7.alloc (.cells #[.slice aa i ca] 24) = W7 at *
      have ea : W7.cell? ⟨w7.heap.size, 0, none⟩ = some (.slice aa i ca) := AO.out.cell rfl
      have ed : W7.cell? ⟨w4.heap.size, 0, none⟩ = some (.slice ad i cd) := DB7.out.cell rfl
      have SM7 : Hid (Calls Tryd.prog 10 #[.agg #[.slice aa i ca], .agg #[.slice ad i cd]] W7 fun e w' => e = .returned (.bool true) ∧ Below W7.heap.size W7 w') := Lib.hid (by have := rsame_any W7 W7 SA7.out SD7.out (Below.refl _ _); simpa using this)
      go_wp2_with (first
        | (have _t := tokS2; go_at_call 10; go_must (refine (SM7.out).mono ?_); clear tokS2 _t
           rintro e w8 ⟨rfl, b8⟩
           go_must (have B8 := Lib.hid b8)
           clear b8)
        | fail)
      go_ret
      exact ⟨rfl, (((B4.out.trans (D6.out.mono B4.out.size)).trans (hov.out.bel.mono (by have := B2.out.size; omega))).trans (BB7.out.mono (by have := B4.out.size; have := D6.out.size; have := hov.out.bel.size; omega))).trans (B8.out.mono (by have := B4.out.size; have := D6.out.size; have := hov.out.bel.size; have := BB7.out.size; omega))⟩
end Go.Proofs.YtdkoafmgenbkbaaDoor
