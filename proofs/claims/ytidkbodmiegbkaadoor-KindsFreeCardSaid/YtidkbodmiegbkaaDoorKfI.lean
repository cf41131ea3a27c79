/- Chapter 09: the law KindsFree, walked. -/
import Derived.Test.YtidkbodmiegbkaaDoorKfH
import Derived.Test.YtidkbodmiegbkaaDoorLK
namespace Go.Proofs.YtidkbodmiegbkaaDoor
set_option linter.unusedSimpArgs false
set_option linter.unusedVariables false
open Go.RowKit

theorem takes_below {w w' : World} (h : TakesB w) (hb : Below w.heap.size w w') : TakesB w' :=
  h.block (hb.block 0 (by obtain ⟨t, fr, e⟩ := h; rcases Nat.lt_or_ge 0 w.heap.size with h | h; exact h; rw [Array.getElem?_eq_none h] at e; cases e))
/-- what both Free come to -/
def FreeK (F : List (List Nat)) (er : Int) (w : World) (e : Ending) (w' : World) : Prop := ∃ (a : Option Addr) (c : Nat) (L : List ByteArray), e = .returned (.tuple #[.slice a L.length c, .int .i64 er]) ∧ L.length ≤ 256 ∧ FreeL F L ∧ Own1 w' w.heap.size 9 1 IsText (.slice a L.length c) L ∧ Below w.heap.size w w'
theorem own1_noneT (w : World) (b : Nat) : Own1 w b 9 1 IsText (.slice none 0 0) [] := ⟨[], World.ownsRow_nil _ _ _ _, FlatR.nil_⟩
theorem free_both {l : List ND} (hok : ∀ d ∈ l, NdOk d) : ∃ (er : Int) (F : List (List Nat)),
    (∀ (w w0 : World) (v : Value), SlR w0 w0.heap.size 4 (ND.Is w0 w0.heap.size) v l → Marks w0 → Pow w0 → TakesB w0 → Below w0.heap.size w0 w → Calls Tryd.prog 12 #[.agg #[v]] w (FreeK F er w)) ∧
    (∀ (w w0 : World) (v : Value), SlR w0 w0.heap.size 4 (ND.Is w0 w0.heap.size) v l → Below w0.heap.size w0 w → Calls Tryd.prog 13 #[.agg #[v]] w (FreeK F er w)) := by
  by_cases hr : rightE l = 0
  · obtain ⟨t, tg, td, ts, hl, _⟩ := right_tree hok hr
    refine ⟨0, frR 32 t [] [], fun w w0 v hs hm hp ht hw => ?_, fun w w0 v hs hw => ?_⟩
    · exact (free_ok w w0 (hl ▸ hs) (hl ▸ hok) hm hp ht hw tg td ts).mono fun e w' h => h
    · exact (rfree_ok w w0 (hl ▸ hs) (hl ▸ hok) hw tg td ts).mono fun e w' h => h
  · refine ⟨rightE l, [], fun w w0 v hs hm hp ht hw => ?_, fun w w0 v hs hw => ?_⟩
    · exact (free_bad w w0 hs hok hm hp ht hw hr).mono fun e w' h => ⟨none, 0, [], h.1, by simp, FreeL.nil, own1_noneT _ _, h.2⟩
    · exact (rfree_bad w w0 hs hok hw hr).mono fun e w' h => ⟨none, 0, [], h.1, by simp, FreeL.nil, own1_noneT _ _, h.2⟩

set_option maxRecDepth 100000 in
set_option maxHeartbeats 8000000 in
theorem lawKf {l : List ND} {v : Value} (w : World) (hs : SlR w w.heap.size 4 (ND.Is w w.heap.size) v l) (hok : ∀ d ∈ l, NdOk d) (hfit : l.length * 56 ≤ 140737488355328) (hkf : ∀ d ∈ l, d.kids.length * 8 ≤ 140737488355328) (hm : Marks w) (hp : Pow w) (ht : TakesB w) :
    Calls Tryd.prog 4 #[.agg #[v]] w fun e w' => e = .returned (.bool true) ∧ Below w.heap.size w w' := by
  obtain ⟨er, F, PF, RF⟩ := free_both hok
  have TW := Lib.hid (fun W (hW : Below w.heap.size w W) => twin8 W w hs hfit hkf hW)
  obtain ⟨a, c, rfl⟩ : ∃ a c, v = .slice a l.length c := by obtain ⟨a, c, h, _⟩ := hs.form; exact ⟨a, c, h⟩
  obtain ⟨n, hn⟩ : ∃ n, l.length = n := ⟨_, rfl⟩
  rw [hn] at hs TW ⊢
  have HN := Lib.hid hn
  have HS := Lib.hid hs
  have HM := Lib.hid (And.intro hm (And.intro hp ht))
  have PFX := Lib.hid PF
  have RFX := Lib.hid RF
  have q3 : (er == er) = true := by simp
  clear hs hfit hkf hm hp ht PF RF hn hok
  go_enter Tryd.func4, Tryd.ntmps4
  go_upto_region 1 with fail
  have Kew1 : Hid (Blk (w.alloc (.cells #[.slice a n c] 24)) w.heap.size 24 #[.slice a n c]) := Lib.hid (Blk.new _ _ _)
  have B1 : Hid (Below w.heap.size w (w.alloc (.cells #[.slice a n c] 24))) := Lib.hid ((Below.refl _ _).alloc (Nat.le_refl _) _)
  generalize w.alloc (.cells #[.slice a n c] 24) = w1 at *
  have ee : w1.cell? ⟨w.heap.size, 0, none⟩ = some (.slice a n c) := Kew1.out.cell rfl
  have le : w.heap.size < w1.heap.size := Kew1.out.lt
  have tokT : True := trivial
  have tokP : True := trivial
  have tokR : True := trivial
  go_upto_region 2 with (first
    | (have _t := tokT; go_at_call 5; go_must (refine (TW.out _ B1.out).mono ?_); clear tokT _t
       rintro e w2 ⟨v2, ns2, rfl, h2, m2, b2⟩
       go_must (have hr2 := h2.read)
       rw [m2] at hr2
       obtain ⟨a2, c2, hv2, _⟩ := hr2.form
       subst hv2
       rw [HN.out] at hr2 ⊢
       go_must (have SX2 := Lib.hid hr2)
       go_must (have B2 := Lib.hid (B1.out.trans (b2.mono B1.out.size)))
       clear ee le
       go_must (have Kew2 : Hid (Blk w2 w.heap.size 24 #[.slice a n c]) := Lib.hid (by have h := Kew1.out; exact h.below b2 h.lt))
       go_must (have ee : (w2).cell? ⟨w.heap.size, 0, none⟩ = some (.slice a n c) := Kew2.out.cell rfl)
       go_must (have le : w.heap.size < (w2).heap.size := Kew2.out.lt)
       go_must (have M2 : Hid (Marks w2 ∧ Pow w2 ∧ TakesB w2) := Lib.hid ⟨HM.out.1.below B2.out, HM.out.2.1.below B2.out, takes_below HM.out.2.2 B2.out⟩)
       clear b2 h2 m2 hr2)
    | (have _t := tokP; go_at_call 12; go_must (refine (PFX.out w2 w2 _ SX2.out M2.out.1 M2.out.2.1 M2.out.2.2 (Below.refl _ _)).mono ?_); clear tokP _t
       rintro e w3 ⟨a3, c3, L3, rfl, h3, f3, o3, b3⟩
       clear ee le
       go_must (have Kew3 : Hid (Blk w3 w.heap.size 24 #[.slice a n c]) := Lib.hid (by have h := Kew2.out; exact h.below b3 h.lt))
       go_must (have ee : (w3).cell? ⟨w.heap.size, 0, none⟩ = some (.slice a n c) := Kew3.out.cell rfl)
       go_must (have le : w.heap.size < (w3).heap.size := Kew3.out.lt)
       go_must (have O3 := Lib.hid (And.intro f3 o3))
       go_must (have B3 := Lib.hid (B2.out.trans (b3.mono B2.out.size)))
       clear b3 f3 o3 h3)
    | fail)
  go_upto_region 3 with (first
    | (have _t := tokR; go_at_call 13; go_must (refine (RFX.out w3 w _ HS.out B3.out).mono ?_); clear tokR _t
       rintro e w4 ⟨a4, c4, L4, rfl, h4, f4, o4, b4⟩
       go_must (have O4 := Lib.hid (And.intro f4 o4))
       go_must (have B4 := Lib.hid (B3.out.trans (b4.mono B3.out.size)))
       go_must (have D4 := Lib.hid b4)
       clear b4 f4 o4 h4)
    | fail)
  have e34 : L4 = L3 := O4.out.1.same O3.out.1
  subst e34
  obtain ⟨k4, hk4⟩ : ∃ z, L4.length = z := ⟨_, rfl⟩
  have SI : Hid (Calls Tryd.prog 14 #[.slice a3 L4.length c3, .slice a4 L4.length c4] w4 fun e w' => e = .returned (.bool true) ∧ Quiet w4 w') := Lib.hid (by
    have := ref_texts w4 w4 ((O3.out.2.below D4.out (Nat.le_refl _)).read (by decide)) (O4.out.2.read (by decide)) (Below.refl _ _)
    simpa using this)
  rw [hk4] at SI ⊢
  clear ee le
  go_wp2_with (first
    | (go_at_call 14; go_must (refine (SI.out).mono ?_)
       rintro e w5 ⟨rfl, hq⟩
       go_must (have B5 := Lib.hid (hq.below w4.heap.size))
       clear hq)
    | fail)
  go_ret
  exact ⟨rfl, B4.out.trans (B5.out.mono B4.out.size)⟩
end Go.Proofs.YtidkbodmiegbkaaDoor
