/- Chapter 09: the law KindsOf, walked. -/
import Derived.Test.YtidkbodmiegbkaaDoorKeE
namespace Go.Proofs.YtidkbodmiegbkaaDoor
set_option linter.unusedSimpArgs false
set_option linter.unusedVariables false
open Go.RowKit

theorem TakesB.below {w w' : World} (h : TakesB w) (hb : Below w.heap.size w w') : TakesB w' :=
  h.block (hb.block 0 (by obtain ⟨t, fr, e⟩ := h; rcases Nat.lt_or_ge 0 w.heap.size with h | h; exact h; rw [Array.getElem?_eq_none h] at e; cases e))
/-- what both chapters' Of and Each come to -/
def OneK (w : World) (x at_ er : Int) (e : Ending) (w' : World) : Prop := e = .returned (.tuple #[.int .i64 x, .int .i64 at_, .int .i64 er]) ∧ Below w.heap.size w w'
def EachK (w : World) (K : List Int) (at_ er : Int) (e : Ending) (w' : World) : Prop := ∃ sv, e = .returned (.tuple #[sv, .int .i64 at_, .int .i64 er]) ∧ Own1 w' w.heap.size 3 1 IsI sv K ∧ Below w.heap.size w w'
theorem own1_none (w : World) (b : Nat) : Own1 w b 3 1 IsI (.slice none 0 0) [] := ⟨[], World.ownsRow_nil _ _ _ _, FlatR.nil_⟩
theorem kinds_both {l : List ND} (hok : ∀ d ∈ l, NdOk d) : ∃ (x at_ er : Int) (K : List Int), K.length ≤ 1024 ∧
    (∀ (w w0 : World) (v : Value), SlR w0 w0.heap.size 4 (ND.Is w0 w0.heap.size) v l → Marks w0 → Pow w0 → TakesB w0 → Below w0.heap.size w0 w → Calls Tryd.prog 6 #[.agg #[v]] w (OneK w x at_ er)) ∧
    (∀ (w w0 : World) (v : Value), SlR w0 w0.heap.size 4 (ND.Is w0 w0.heap.size) v l → Marks w0 → Pow w0 → TakesB w0 → Below w0.heap.size w0 w → Calls Tryd.prog 7 #[.agg #[v]] w (EachK w K at_ er)) ∧
    (∀ (w w0 : World) (v : Value), SlR w0 w0.heap.size 4 (ND.Is w0 w0.heap.size) v l → Below w0.heap.size w0 w → Calls Tryd.prog 8 #[.agg #[v]] w (OneK w x at_ er)) ∧
    (∀ (w w0 : World) (v : Value), SlR w0 w0.heap.size 4 (ND.Is w0 w0.heap.size) v l → Below w0.heap.size w0 w → Calls Tryd.prog 9 #[.agg #[v]] w (EachK w K at_ er)) := by
  by_cases hr : rightE l = 0
  · obtain ⟨t, tg, td, ts, hl, _⟩ := right_tree hok hr
    refine ⟨kindT t, atN t, errN (ndsT t 0) t, kindsT t, ?_, fun w w0 v hs hm hp ht hw => ?_, fun w w0 v hs hm hp ht hw => ?_, fun w w0 v hs hw => ?_, fun w w0 v hs hw => ?_⟩
    · have := ksR_len 32 t [] td
      unfold kindsT
      split
      · omega
      · simp
    · exact (of_ok w w0 (hl ▸ hs) (hl ▸ hok) hm hp ht hw tg td ts).mono fun e w' h => h
    · exact (each_ok w w0 (hl ▸ hs) (hl ▸ hok) hm hp ht hw tg td ts).mono fun e w' h => h
    · exact (rof_ok w w0 (hl ▸ hs) (hl ▸ hok) hw tg td ts).mono fun e w' h => h
    · exact (reach_ok w w0 (hl ▸ hs) (hl ▸ hok) hw tg td ts).mono fun e w' h => h
  · refine ⟨0, 0, rightE l, [], by simp, fun w w0 v hs hm hp ht hw => ?_, fun w w0 v hs hm hp ht hw => ?_, fun w w0 v hs hw => ?_, fun w w0 v hs hw => ?_⟩
    · exact (of_bad w w0 hs hok hm hp ht hw hr).mono fun e w' h => h
    · exact (each_bad w w0 hs hok hm hp ht hw hr).mono fun e w' h => ⟨_, h.1, own1_none _ _, h.2⟩
    · exact (rof_bad w w0 hs hok hw hr).mono fun e w' h => h
    · exact (reach_bad w w0 hs hok hw hr).mono fun e w' h => ⟨_, h.1, own1_none _ _, h.2⟩
/-- while the first row's kinds are overwritten: what stays -/
structure OverI (w6 wr : World) (C : Nat) (ac : Option Addr) (nc D : Nat) (nv : Value) (K : List Int) : Prop where
  bel : Below C w6 wr
  row : nc = 0 ∨ ∃ g cs, ac = some ⟨g, 0, none⟩ ∧ C ≤ g ∧ g < D ∧ Blk wr g 3 cs ∧ nc * 1 ≤ cs.size
  drow : Own1 wr D 3 1 IsI nv K
theorem OverI.store {w6 wr : World} {C nc D g : Nat} {ac : Option Addr} {nv : Value} {K : List Int} (h : OverI w6 wr C ac nc D nv K) {cs : Array Value} (hg : ac = some ⟨g, 0, none⟩) (hC : C ≤ g) (hgD : g < D) (hb : Blk wr g 3 cs) (hsz : nc * 1 ≤ cs.size) (i : Nat) (u : Value) :
    OverI w6 (wr.setCell ⟨g, i, none⟩ u) C ac nc D nv K := by
  have h2 := hb.set_ i u
  exact ⟨h.bel.setCell (p := ⟨g, i, none⟩) hC u, .inr ⟨g, _, hg, hC, hgD, h2, by rw [Array.size_setIfInBounds]; exact hsz⟩, h.drow.setOther (p := ⟨g, i, none⟩) (fun e => by have := (h.drow.block g e).1; omega) u⟩

set_option maxRecDepth 100000 in
set_option maxHeartbeats 8000000 in
theorem lawKd {l : List ND} {v : Value} (w : World) (hs : SlR w w.heap.size 4 (ND.Is w w.heap.size) v l) (hok : ∀ d ∈ l, NdOk d) (hfit : l.length * 56 ≤ 140737488355328) (hkf : ∀ d ∈ l, d.kids.length * 8 ≤ 140737488355328) (hm : Marks w) (hp : Pow w) (ht : TakesB w) :
    Calls Tryd.prog 3 #[.agg #[v]] w fun e w' => e = .returned (.bool true) ∧ Below w.heap.size w w' := by
  obtain ⟨x, at_, er, K, hK1, PO, PE, RO, RE⟩ := kinds_both hok
  have TW := Lib.hid (fun W (hW : Below w.heap.size w W) => twin8 W w hs hfit hkf hW)
  obtain ⟨a, c, rfl⟩ : ∃ a c, v = .slice a l.length c := by obtain ⟨a, c, h, _⟩ := hs.form; exact ⟨a, c, h⟩
  obtain ⟨n, hn⟩ : ∃ n, l.length = n := ⟨_, rfl⟩
  rw [hn] at hs TW ⊢
  obtain ⟨nc, hnc⟩ : ∃ n, K.length = n := ⟨_, rfl⟩
  have HN := Lib.hid hn
  have HNC := Lib.hid hnc
  have nc1 : nc ≤ 1024 := by omega
  have HS := Lib.hid hs
  have HM := Lib.hid (And.intro hm (And.intro hp ht))
  have POX := Lib.hid PO
  have PEX := Lib.hid PE
  have ROX := Lib.hid RO
  have REX := Lib.hid RE
  have q1 : (x != x) = false := by simp
  have q2 : (at_ != at_) = false := by simp
  have q3 : (er != er) = false := by simp
  clear hs hfit hkf hm hp ht PO PE RO RE hn hnc hK1 hok
  go_enter Tryd.func3, Tryd.ntmps3
  go_upto_region 1 with fail
  have Kew1 : Hid (Blk (w.alloc (.cells #[.slice a n c] 24)) w.heap.size 24 #[.slice a n c]) := Lib.hid (Blk.new _ _ _)
  have B1 : Hid (Below w.heap.size w (w.alloc (.cells #[.slice a n c] 24))) := Lib.hid ((Below.refl _ _).alloc (Nat.le_refl _) _)
  generalize w.alloc (.cells #[.slice a n c] 24) = w1 at *
  have ee : w1.cell? ⟨w.heap.size, 0, none⟩ = some (.slice a n c) := Kew1.out.cell rfl
  have le : w.heap.size < w1.heap.size := Kew1.out.lt
  have tokT : True := trivial
  go_upto_region 2 with (first
    | (have _t := tokT; go_at_call 5; go_must (refine (TW.out _ B1.out).mono ?_); clear tokT _t
       rintro e w2 ⟨v2, ns2, rfl, h2, m2, b2⟩
       go_must (have hr2 := h2.read)
       rw [m2] at hr2
       obtain ⟨a2, c2, hv2, _⟩ := hr2.form
       subst hv2
       rw [HN.out] at hr2 ⊢
       go_must (have SX2 := Lib.hid hr2)
       go_must (have B2 := Lib.hid (B1.out.trans (b2.mono B1.out.size)))
       clear ee le
       go_must (have Kew2 : Hid (Blk w2 w.heap.size 24 #[.slice a n c]) := Lib.hid (by have h := Kew1.out; exact h.below b2 h.lt))
       go_must (have ee : (w2).cell? ⟨w.heap.size, 0, none⟩ = some (.slice a n c) := Kew2.out.cell rfl)
       go_must (have le : w.heap.size < (w2).heap.size := Kew2.out.lt)
       clear b2 h2 m2 hr2)
    | fail)
  clear ee le
  have KxW2 : Hid (Blk (w2.alloc (.cells #[.slice a2 n c2] 24)) w2.heap.size 24 #[.slice a2 n c2]) := Lib.hid (Blk.new _ _ _)
  have KeW2 : Hid (Blk (w2.alloc (.cells #[.slice a2 n c2] 24)) w.heap.size 24 #[.slice a n c]) := Lib.hid (Kew2.out.alloc _)
  have A2 : Hid (Below w2.heap.size w2 (w2.alloc (.cells #[.slice a2 n c2] 24))) := Lib.hid ((Below.refl _ _).alloc (Nat.le_refl _) _)
  have hz2 : w2.heap.size < (w2.alloc (.cells #[.slice a2 n c2] 24)).heap.size := by simp
  generalize w2.alloc (.cells #[.slice a2 n c2] 24) = W2 at *
  have ee : W2.cell? ⟨w.heap.size, 0, none⟩ = some (.slice a n c) := KeW2.out.cell rfl
  have le : w.heap.size < W2.heap.size := KeW2.out.lt
  have ex : W2.cell? ⟨w2.heap.size, 0, none⟩ = some (.slice a2 n c2) := KxW2.out.cell rfl
  have lx : w2.heap.size < W2.heap.size := KxW2.out.lt
  have BW2 : Hid (Below w.heap.size w W2) := Lib.hid (B2.out.trans (A2.out.mono B2.out.size))
  have M2 : Hid (Marks w2 ∧ Pow w2 ∧ TakesB w2) := Lib.hid ⟨HM.out.1.below B2.out, HM.out.2.1.below B2.out, HM.out.2.2.below B2.out⟩
  have tokO : True := trivial
  have tokE : True := trivial
  have tokP : True := trivial
  have tokQ : True := trivial
  have tokI : True := trivial
  have tokS : True := trivial
  have tokR : True := trivial
  have tokX : True := trivial
  go_upto_region 3 with (first
    | (have _t := tokO; go_at_call 6; go_must (refine (POX.out W2 w2 _ SX2.out M2.out.1 M2.out.2.1 M2.out.2.2 A2.out).mono ?_); clear tokO _t
       rintro e w3 ⟨rfl, bz⟩
       clear ee le ex lx
       go_must (have Kew3 : Hid (Blk w3 w.heap.size 24 #[.slice a n c]) := Lib.hid (by have h := KeW2.out; exact h.below bz h.lt))
       go_must (have ee : (w3).cell? ⟨w.heap.size, 0, none⟩ = some (.slice a n c) := Kew3.out.cell rfl)
       go_must (have le : w.heap.size < (w3).heap.size := Kew3.out.lt)
       go_must (have Kxw3 : Hid (Blk w3 w2.heap.size 24 #[.slice a2 n c2]) := Lib.hid (by have h := KxW2.out; exact h.below bz h.lt))
       go_must (have ex : (w3).cell? ⟨w2.heap.size, 0, none⟩ = some (.slice a2 n c2) := Kxw3.out.cell rfl)
       go_must (have lx : w2.heap.size < (w3).heap.size := Kxw3.out.lt)
       go_must (have A3 := Lib.hid (A2.out.trans (bz.mono A2.out.size)))
       go_must (have BW3 := Lib.hid (BW2.out.trans (bz.mono BW2.out.size)))
       go_must (have hz3 := bz.size)
       go_must (have D3 := Lib.hid bz)
       clear bz)
    | fail)
  go_upto_region 4 with (first
    | (have _t := tokE; go_at_call 7; go_must (refine (PEX.out w3 w2 _ SX2.out M2.out.1 M2.out.2.1 M2.out.2.2 A3.out).mono ?_); clear tokE _t
       rintro e w4 ⟨sv, rfl, hk1, bz⟩
       clear ee le ex lx
       go_must (have Kew4 : Hid (Blk w4 w.heap.size 24 #[.slice a n c]) := Lib.hid (by have h := Kew3.out; exact h.below bz h.lt))
       go_must (have ee : (w4).cell? ⟨w.heap.size, 0, none⟩ = some (.slice a n c) := Kew4.out.cell rfl)
       go_must (have le : w.heap.size < (w4).heap.size := Kew4.out.lt)
       go_must (have Kxw4 : Hid (Blk w4 w2.heap.size 24 #[.slice a2 n c2]) := Lib.hid (by have h := Kxw3.out; exact h.below bz h.lt))
       go_must (have ex : (w4).cell? ⟨w2.heap.size, 0, none⟩ = some (.slice a2 n c2) := Kxw4.out.cell rfl)
       go_must (have lx : w2.heap.size < (w4).heap.size := Kxw4.out.lt)
       go_must (have A4 := Lib.hid (A3.out.trans (bz.mono A3.out.size)))
       go_must (have BW4 := Lib.hid (BW3.out.trans (bz.mono BW3.out.size)))
       go_must (have hz4 := bz.size)
       go_must (have D4 := Lib.hid bz)
       obtain ⟨ac, cc, rfl⟩ := hk1.form
       rw [HNC.out] at hk1 ⊢
       go_must (have OC := Lib.hid hk1)
       clear hk1
       clear bz)
    | fail)
  go_upto_region 5 with (first
    | (have _t := tokP; go_at_call 8; go_must (refine (ROX.out w4 w _ HS.out BW4.out).mono ?_); clear tokP _t
       rintro e w5 ⟨rfl, bz⟩
       clear ee le ex lx
       go_must (have Kew5 : Hid (Blk w5 w.heap.size 24 #[.slice a n c]) := Lib.hid (by have h := Kew4.out; exact h.below bz h.lt))
       go_must (have ee : (w5).cell? ⟨w.heap.size, 0, none⟩ = some (.slice a n c) := Kew5.out.cell rfl)
       go_must (have le : w.heap.size < (w5).heap.size := Kew5.out.lt)
       go_must (have Kxw5 : Hid (Blk w5 w2.heap.size 24 #[.slice a2 n c2]) := Lib.hid (by have h := Kxw4.out; exact h.below bz h.lt))
       go_must (have ex : (w5).cell? ⟨w2.heap.size, 0, none⟩ = some (.slice a2 n c2) := Kxw5.out.cell rfl)
       go_must (have lx : w2.heap.size < (w5).heap.size := Kxw5.out.lt)
       go_must (have A5 := Lib.hid (A4.out.trans (bz.mono A4.out.size)))
       go_must (have BW5 := Lib.hid (BW4.out.trans (bz.mono BW4.out.size)))
       go_must (have hz5 := bz.size)
       go_must (have D5 := Lib.hid bz)
       clear bz)
    | fail)
  go_upto_region 6 with (first
    | (have _t := tokQ; go_at_call 9; go_must (refine (REX.out w5 w _ HS.out BW5.out).mono ?_); clear tokQ _t
       rintro e w6 ⟨sv, rfl, hk1, bz⟩
       clear ee le ex lx
       go_must (have Kew6 : Hid (Blk w6 w.heap.size 24 #[.slice a n c]) := Lib.hid (by have h := Kew5.out; exact h.below bz h.lt))
       go_must (have ee : (w6).cell? ⟨w.heap.size, 0, none⟩ = some (.slice a n c) := Kew6.out.cell rfl)
       go_must (have le : w.heap.size < (w6).heap.size := Kew6.out.lt)
       go_must (have Kxw6 : Hid (Blk w6 w2.heap.size 24 #[.slice a2 n c2]) := Lib.hid (by have h := Kxw5.out; exact h.below bz h.lt))
       go_must (have ex : (w6).cell? ⟨w2.heap.size, 0, none⟩ = some (.slice a2 n c2) := Kxw6.out.cell rfl)
       go_must (have lx : w2.heap.size < (w6).heap.size := Kxw6.out.lt)
       go_must (have A6 := Lib.hid (A5.out.trans (bz.mono A5.out.size)))
       go_must (have BW6 := Lib.hid (BW5.out.trans (bz.mono BW5.out.size)))
       go_must (have hz6 := bz.size)
       go_must (have D6 := Lib.hid bz)
       obtain ⟨ad, cd, rfl⟩ := hk1.form
       rw [HNC.out] at hk1 ⊢
       go_must (have OD := Lib.hid hk1)
       clear hk1
       clear bz)
    | fail)
  have D46 : Hid (Below w4.heap.size w4 w6) := Lib.hid (D5.out.trans (D6.out.mono D5.out.size))
  have SC6 : Hid (SlR w6 w6.heap.size 1 IsI (.slice ac nc cc) K) := Lib.hid ((OC.out.below D46.out (Nat.le_refl _)).read (by decide))
  have SD6 : Hid (SlR w6 w6.heap.size 1 IsI (.slice ad nc cd) K) := Lib.hid (OD.out.read (by decide))
  have SX6 : Hid (SlR w6 w6.heap.size 4 (ND.Is w6 w6.heap.size) (.slice a2 n c2) l) := Lib.hid (ndReadC SX2.out A6.out)
  have SE6 : Hid (SlR w6 w6.heap.size 4 (ND.Is w6 w6.heap.size) (.slice a n c) l) := Lib.hid (ndReadC HS.out BW6.out)
  have SI : Hid (Calls Tryd.prog 10 #[.slice ac nc cc, .slice ad nc cd] w6 fun e w' => e = .returned (.bool true) ∧ Quiet w6 w') := Lib.hid (by have := ref_ints w6 w6 SC6.out SD6.out (Below.refl _ _); simpa using this)
  have SN : Hid (∀ W, Below w6.heap.size w6 W → Calls Tryd.prog 11 #[.agg #[.slice a2 n c2], .agg #[.slice a n c]] W fun e w' => e = .returned (.bool true) ∧ Below W.heap.size W w') := Lib.hid (fun W hW => by have := ref8_any W w6 SX6.out SE6.out hW; simpa using this)
  go_upto_region 8 with (first
    | (have _t := tokI; go_at_call 10; go_must (refine (SI.out).mono ?_); clear tokI _t
       rintro e w7 ⟨rfl, hq⟩
       have bz := hq.below w6.heap.size
       clear hq
       clear ee le ex lx
       go_must (have Kew7 : Hid (Blk w7 w.heap.size 24 #[.slice a n c]) := Lib.hid (by have h := Kew6.out; exact h.below bz h.lt))
       go_must (have ee : (w7).cell? ⟨w.heap.size, 0, none⟩ = some (.slice a n c) := Kew7.out.cell rfl)
       go_must (have le : w.heap.size < (w7).heap.size := Kew7.out.lt)
       go_must (have Kxw7 : Hid (Blk w7 w2.heap.size 24 #[.slice a2 n c2]) := Lib.hid (by have h := Kxw6.out; exact h.below bz h.lt))
       go_must (have ex : (w7).cell? ⟨w2.heap.size, 0, none⟩ = some (.slice a2 n c2) := Kxw7.out.cell rfl)
       go_must (have lx : w2.heap.size < (w7).heap.size := Kxw7.out.lt)
       go_must (have A7 := Lib.hid (A6.out.trans (bz.mono A6.out.size)))
       go_must (have BW7 := Lib.hid (BW6.out.trans (bz.mono BW6.out.size)))
       go_must (have hz7 := bz.size)
       go_must (have D7 := Lib.hid bz)
       clear bz)
    | (have _t := tokS; go_at_call 11; go_must (refine (SN.out w7 D7.out).mono ?_); clear tokS _t
       rintro e w8 ⟨rfl, bz⟩
       clear ee le ex lx
       go_must (have Kew8 : Hid (Blk w8 w.heap.size 24 #[.slice a n c]) := Lib.hid (by have h := Kew7.out; exact h.below bz h.lt))
       go_must (have ee : (w8).cell? ⟨w.heap.size, 0, none⟩ = some (.slice a n c) := Kew8.out.cell rfl)
       go_must (have le : w.heap.size < (w8).heap.size := Kew8.out.lt)
       go_must (have Kxw8 : Hid (Blk w8 w2.heap.size 24 #[.slice a2 n c2]) := Lib.hid (by have h := Kxw7.out; exact h.below bz h.lt))
       go_must (have ex : (w8).cell? ⟨w2.heap.size, 0, none⟩ = some (.slice a2 n c2) := Kxw8.out.cell rfl)
       go_must (have lx : w2.heap.size < (w8).heap.size := Kxw8.out.lt)
       go_must (have A8 := Lib.hid (A7.out.trans (bz.mono A7.out.size)))
       go_must (have BW8 := Lib.hid (BW7.out.trans (bz.mono BW7.out.size)))
       go_must (have hz8 := bz.size)
       go_must (have D8 := Lib.hid bz)
       clear bz)
    | fail)
  have D68 : Hid (Below w6.heap.size w6 w8) := Lib.hid (D7.out.trans (D8.out.mono D7.out.size))
  have OV : Hid (OverI w8 w8 w3.heap.size ac nc w5.heap.size (.slice ad nc cd) K) := Lib.hid ⟨Below.refl _ _, by
      rcases (OC.out.below (D46.out.trans (D68.out.mono D46.out.size)) (Nat.le_refl _)).blk with h | ⟨g, cs, h1, h2, h3, h4, h5⟩
      · exact .inl h
      · exact .inr ⟨g, cs, h1, h2, Nat.lt_of_lt_of_le (OC.out.block g (by rw [h1]; rfl)).2 D5.out.size, h4, h5⟩, OD.out.below D68.out (Nat.le_refl _)⟩
  clear ee le ex lx
  go_wp2_with fail
  go_loopw [16] (fun v16 wr => ∃ i : Nat, i ≤ nc ∧ v16 = .int .i64 (i : Int) ∧ Hid (OverI w8 wr w3.heap.size ac nc w5.heap.size (.slice ad nc cd) K)) (fun v16 _ => nc - (intOf v16).toNat)
  case atStart => exact ⟨0, Nat.zero_le _, rfl, OV⟩
  case round =>
    obtain ⟨i, hi, rfl, hov⟩ := hrel
    by_cases hlt : i < nc
    · rcases hov.out.row with h0 | ⟨g, cs, rfl, h2, h3, h4, h5⟩
      · omega
      · have i0 : (0 : Int) ≤ (i : Int) := Int.natCast_nonneg _
        have i1 : (i : Int) < (nc : Int) := by omega
        have H45 := Lib.hid (And.intro h4 h5)
        obtain ⟨u0, hu0⟩ : ∃ u, cs[i]? = some u := ⟨cs[i]'(by omega), Array.getElem?_eq_getElem _⟩
        have y0 : wr.cell? ⟨g, i, none⟩ = some u0 := h4.cell hu0
        have z0 : wr.frozen? ⟨g, i, none⟩ = false := h4.frozen _
        clear h4 h5 hu0
        go_wp2_with fail
        go_roundw
        case rel => exact ⟨i + 1, by omega, by go_num, Lib.hid (hov.out.store rfl h2 h3 H45.out.1 H45.out.2 _ _)⟩
        case measure => simp [intOf]; omega
    · have hin : i = nc := by omega
      subst hin
      have hx3 : w2.heap.size < w3.heap.size := by omega
      have Kxr : Hid (Blk wr w2.heap.size 24 #[.slice a2 n c2]) := Lib.hid (Kxw8.out.below hov.out.bel hx3)
      have ex : wr.cell? ⟨w2.heap.size, 0, none⟩ = some (.slice a2 n c2) := Kxr.out.cell rfl
      have Br : Hid (Below w2.heap.size w2 wr) := Lib.hid (A8.out.trans (hov.out.bel.mono (by omega)))
      clear hlt hi
      go_upto_region 13 with (first
        | (have _t := tokR; go_at_call 7; go_must (refine (PEX.out wr w2 _ SX2.out M2.out.1 M2.out.2.1 M2.out.2.2 Br.out).mono ?_); clear tokR _t
           rintro e w9 ⟨sv, rfl, hk1, bz⟩
           obtain ⟨aa, ca, rfl⟩ := hk1.form
           rw [HNC.out] at hk1 ⊢
           go_must (have OA := Lib.hid hk1)
           go_must (have B9 := Lib.hid bz)
           go_must (have OD9 := Lib.hid (hov.out.drow.below bz (Nat.le_refl _)))
           clear hk1 bz)
        | fail)
      have SA9 := Lib.hid (OA.out.read (by decide))
      have SD9 := Lib.hid (OD9.out.read (by decide))
      have SI9 : Hid (Calls Tryd.prog 10 #[.slice aa i ca, .slice ad i cd] w9 fun e w' => e = .returned (.bool true) ∧ Quiet w9 w') := Lib.hid (by have := ref_ints w9 w9 SA9.out SD9.out (Below.refl _ _); simpa using this)
      go_wp2_with (first
        | (have _t := tokX; go_at_call 10; go_must (refine (SI9.out).mono ?_); clear tokX _t
           rintro e w10 ⟨rfl, hq⟩
           go_must (have B10 := Lib.hid (hq.below w9.heap.size))
           clear hq)
        | fail)
      go_ret
      exact ⟨rfl, ((BW8.out.trans (hov.out.bel.mono (by have := BW2.out.size; omega))).trans (B9.out.mono (by have := BW8.out.size; have := hov.out.bel.size; omega))).trans (B10.out.mono (by have := BW8.out.size; have := hov.out.bel.size; have := B9.out.size; omega))⟩
end Go.Proofs.YtidkbodmiegbkaaDoor
