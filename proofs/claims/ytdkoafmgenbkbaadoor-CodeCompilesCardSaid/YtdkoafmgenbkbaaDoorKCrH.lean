/- Taken over out of another chapter (its text CrH): what is needed here. -/
import Derived.Test.YtdkoafmgenbkbaaDoorProg
import Derived.Test.YtdkoafmgenbkbaaDoorShelf
import Derived.Test.YtdkoafmgenbkbaaDoorCards
import Derived.Test.YtdkoafmgenbkbaaDoorTie
import Derived.Test.YtdkoafmgenbkbaaDoorKM1
import Derived.Test.YtdkoafmgenbkbaaDoorKM2
import Derived.Test.YtdkoafmgenbkbaaDoorKM4
import Derived.Test.YtdkoafmgenbkbaaDoorKM3
import Derived.Test.YtdkoafmgenbkbaaDoorKM5
import Derived.Test.YtdkoafmgenbkbaaDoorKCrG
import Derived.Test.YtdkoafmgenbkbaaDoorKM6
import Derived.Test.YtdkoafmgenbkbaaDoorKCrC
import Derived.Test.YtdkoafmgenbkbaaDoorKCrD
import Derived.Test.YtdkoafmgenbkbaaDoorKCrE
import Derived.Test.YtdkoafmgenbkbaaDoorKCrF
import Derived.Below
import Derived.BigQuiet
import Derived.BigRegion
import Derived.Deep.AppendLies
import Derived.Deep.CutBlock
import Derived.Deep.CutRange
import Derived.Deep.Draws
import Derived.Deep.Fields
import Derived.Deep.LoopGhost
import Derived.Deep.QuietTactic
import Derived.Deep.RegionHeld2
import Derived.Deep.RegionHeld3
import Derived.Deep.RegionLaw
import Derived.Deep.Slices
import Derived.Defers
import Derived.IntWalk
import Derived.Laws.BytesString
import Derived.Laws.Cover1
import Derived.Laws.EntriesVeiled
import Derived.Laws.IdiomStrings
import Derived.Laws.MakeOwn
import Derived.Laws.OwnMore
import Derived.Laws.Pointers
import Derived.Laws.Rows
import Derived.Lib.AppendStr
import Derived.Lib.Builder
import Derived.Lib.CutLaws
import Derived.Lib.FrozenHead
import Derived.Lib.Hide
import Derived.Lib.ItoaNum
import Derived.Lib.ParseIntB
import Derived.Lib.SliceRun
import Derived.Lib.SlicesS
import Derived.Maps.AppendAt
import Derived.Orders
import Derived.Outline
import Derived.OwnWalk
import Derived.ProofKit
import Derived.Recover
import Derived.RegionTactic
import Derived.StillTailTactics
import Derived.Tactics
import Derived.Tactics2
import Derived.WalkKit
import Derived.WalkMore
import Derived.WalkSmall
import Derived.WalkSpells
namespace Go.Proofs.YtdkoafmgenbkbaaDoor
set_option linter.unusedSimpArgs false
set_option linter.unusedVariables false
open Go.RowKit
theorem rcode_step {l : List ND} {lv : Value} {W0 : World} {f : Nat} (ih : RCodeIs l lv W0 f) : RCodeIs l lv W0 (f + 1) := by
  intro t p vs m W H
  obtain ⟨k, s, n, ks⟩ := t
  have hnd := H.good.1
  rcases shape_cases hnd.1 with ⟨rfl, h1, h2⟩ | ⟨a, rfl, h1⟩ | ⟨a, b, rfl, h1⟩ | ⟨a, b, c, rfl, rfl⟩
  · rcases (by omega : k = 1 ∨ k = 2 ∨ k = 7 ∨ (3 ≤ k ∧ k ≤ 6)) with rfl | rfl | rfl | h3
    · exact rcode_int H
    · exact rcode_text H
    · exact rcode_var H
    · exact rcode_word H h3
  · rcases (by omega : k = 8 ∨ k = 9 ∨ k = 10 ∨ k = 12 ∨ k = 13 ∨ (k = 11 ∨ (14 ≤ k ∧ k ≤ 19) ∨ k = 29)) with rfl | rfl | rfl | rfl | rfl | h3
    · exact rcode_named8 H ih
    · exact rcode_named9 H ih
    · exact rcode_named10 H ih
    · exact rcode_named12 H ih
    · exact rcode_named13 H ih
    · exact rcode_one H ih h3
  · rcases (by omega : k = 27 ∨ k = 28 ∨ k = 31 ∨ k = 32 ∨ k = 33 ∨ k = 34 ∨ (20 ≤ k ∧ k ≤ 26)) with rfl | rfl | rfl | rfl | rfl | rfl | h3
    · exact rcode_and H ih
    · exact rcode_or H ih
    · exact rcode_loop31 H ih
    · exact rcode_loop32 H ih
    · exact rcode_loop33 H ih
    · exact rcode_loop34 H ih
    · exact rcode_two H ih h3
  · exact rcode_iff H ih
theorem rcode_all {l : List ND} {lv : Value} {W0 : World} : ∀ f, RCodeIs l lv W0 f
  | 0 => fun t p vs m W H => by
    have := H.deep
    obtain ⟨k, s, n, ks⟩ := t
    simp only [Tr.deep] at this
    omega
  | f + 1 => rcode_step (rcode_all f)
set_option maxRecDepth 100000 in
set_option maxHeartbeats 4000000 in
theorem rcompile_bad {l : List ND} {v : Value} (w w0 : World) (hs : SlR w0 w0.heap.size 4 (ND.Is w0 w0.heap.size) v l) (hok : ∀ d ∈ l, NdOk d) (hw : Below w0.heap.size w0 w) (hr : rightE l ≠ 0) :
    Calls Tryd.prog 13 #[.agg #[v]] w fun e w' => e = .returned (.tuple #[.agg #[.slice none 0 0], .int .i64 (rightE l : Int)]) ∧ Below w.heap.size w w' := by
  obtain ⟨a, c, rfl⟩ : ∃ a c, v = .slice a l.length c := by obtain ⟨a, c, h, _⟩ := hs.form; exact ⟨a, c, h⟩
  obtain ⟨n, hn⟩ : ∃ n, l.length = n := ⟨_, rfl⟩
  have HR := Lib.hid (rright ((w.alloc (.cells #[.slice a n c] 38)).alloc (.cells #[.slice none 0 0] 24)) w0 hs hok ((hw.alloc hw.size _).alloc (Nat.le_trans hw.size (by simp)) _))
  rw [hn] at HR ⊢
  obtain ⟨r, hrr⟩ : ∃ r, rightE l = r := ⟨_, rfl⟩
  rw [hrr] at HR hr ⊢
  have e0 : ((r : Int) != 0) = true := by rw [bne_iff_ne]; omega
  clear hs hok hw hn hrr hr
  go_enter Tryd.func13, Tryd.ntmps13
  go_wp2_with (first
    | (go_at_call 29; go_must (refine HR.out.mono ?_); rintro e w3 ⟨rfl, hb⟩; have c2 : w3.cell? ⟨w.heap.size + 1, 0, none⟩ = some (.slice none 0 0) := ((Blk.new_ (w := w.alloc (.cells #[.slice a n c] 38)) (g := w.heap.size + 1) (by simp) 24 #[.slice none 0 0]).below hb (by simp)).cell rfl; have z2 : w3.frozen? ⟨w.heap.size + 1, 0, none⟩ = false := ((Blk.new_ (w := w.alloc (.cells #[.slice a n c] 38)) (g := w.heap.size + 1) (by simp) 24 #[.slice none 0 0]).below hb (by simp)).frozen 0; have HB := Lib.hid hb; clear hb)
    | fail)
  refine bodyPost_ret (v := .tuple #[.agg #[.slice none 0 0], .int .i64 (r : Int)]) (by simp [results, Tryd.results13, go_sem, c2]) rfl ?_
  exact ⟨rfl, ((((Below.refl _ _).alloc (Nat.le_refl _) _).alloc (by simp) _).trans (HB.out.mono (by simp <;> omega))).setCell (p := ⟨w.heap.size + 1, 0, none⟩) (by show w.heap.size ≤ w.heap.size + 1; omega) _⟩
set_option maxRecDepth 100000 in
set_option maxHeartbeats 4000000 in
theorem rcompile_ok {t : Tr} {v : Value} (w w0 : World) (hs : SlR w0 w0.heap.size 4 (ND.Is w0 w0.heap.size) v (ndsT t 0)) (hok : ∀ d ∈ ndsT t 0, NdOk d) (hw : Below w0.heap.size w0 w) (hg : t.Good) (hd : t.deep ≤ 32) (hsz : t.size ≤ 256) :
    Calls Tryd.prog 13 #[.agg #[v]] w fun e w' => ∃ ov, e = .returned (.tuple #[.agg #[ov], .int .i64 0]) ∧ Own1 w' w.heap.size 46 4 Ins.Is ov (codeT t) ∧ Below w.heap.size w w' := by
  obtain ⟨l, hl⟩ : ∃ l, ndsT t 0 = l := ⟨_, rfl⟩
  have hst := stands_nds t
  have hr : rightE l = 0 := by rw [← hl]; exact (right_of hg hsz hd).1
  have hlen : l.length ≤ 256 := by rw [← hl, nds_len]; exact hsz
  rw [hl] at hs hok hst
  obtain ⟨a, c, rfl⟩ : ∃ a c, v = .slice a l.length c := by obtain ⟨a, c, h, _⟩ := hs.form; exact ⟨a, c, h⟩
  have HR := Lib.hid (rright ((w.alloc (.cells #[.slice a l.length c] 38)).alloc (.cells #[.slice none 0 0] 24)) w0 hs hok ((hw.alloc hw.size _).alloc (Nat.le_trans hw.size (by simp)) _))
  rw [hr] at HR
  have HP : Hid (∀ w3, Below w0.heap.size w0 w3 → Calls Tryd.prog 30 #[.agg #[.slice a l.length c], .int .i64 0, .int .i64 1] w3 (RCodeK w3 (codeT t))) := Lib.hid (fun w3 h3 => rcode_all 32 t 0 [] 1 w3 ⟨hs, hok, hlen, hg, hd, hst, Under.root, h3, by omega, by omega, by simp⟩)
  have HW := Lib.hid hw
  obtain ⟨o, ho⟩ : ∃ o, codeT t = o := ⟨_, rfl⟩
  obtain ⟨n, hn⟩ : ∃ n, l.length = n := ⟨_, rfl⟩
  rw [ho] at HP ⊢
  rw [hn] at HR HP ⊢
  clear hs hok hw hr hg hd hsz hst hl hn ho hlen
  go_enter Tryd.func13, Tryd.ntmps13
  go_wp2_with (first
    | (go_at_call 29; go_must (refine HR.out.mono ?_); rintro e w3 ⟨rfl, hb⟩
       go_must (have b1 := (((Blk.new w 38 #[.slice a n c]).alloc (.cells #[.slice none 0 0] 24)).below hb (by simp <;> omega)))
       go_must (have b2 := ((Blk.new_ (w := w.alloc (.cells #[.slice a n c] 38)) (g := w.heap.size + 1) (by simp) 24 #[.slice none 0 0]).below hb (by simp)))
       have c1 : w3.cell? ⟨w.heap.size, 0, none⟩ = some (.slice a n c) := b1.cell rfl
       have lt3 := b2.lt
       go_must (have hb0 : Below w.heap.size w w3 := (((Below.refl w.heap.size w).alloc (Nat.le_refl _) (.cells #[.slice a n c] 38)).alloc (by simp) (.cells #[.slice none 0 0] 24)).trans (hb.mono (by simp <;> omega)))
       have HB := Lib.hid hb0
       have B2 := Lib.hid b2
       go_must (have PN := Lib.hid (HP.out w3 (HW.out.trans (hb0.mono HW.out.size))))
       clear hb b1 b2 hb0)
    | (go_at_call 30
       go_must (refine PN.out.mono ?_)
       rintro e w5 ⟨ov, rfl, hown, hb5⟩
       obtain ⟨oa, oc, rfl⟩ := hown.form
       obtain ⟨n5, hn5⟩ : ∃ x, o.length = x := ⟨_, rfl⟩
       rw [hn5] at hown
       go_must (have b25 := B2.out.below hb5 lt3)
       have c25 : w5.cell? ⟨w.heap.size + 1, 0, none⟩ = some (.slice none 0 0) := b25.cell rfl
       have z25 := b25.frozen 0
       have HO5 := Lib.hid hown
       have HB5 := Lib.hid hb5
       clear hown hb5 b25)
    | fail)
  refine bodyPost_ret (v := .tuple #[.agg #[.slice oa n5 oc], .int .i64 0]) (by simp [results, Tryd.results13, go_sem, c25]) rfl ?_
  refine ⟨.slice oa n5 oc, rfl, ?_, ?_⟩
  · exact (HO5.out.setFar (p := ⟨w.heap.size + 1, 0, none⟩) (by show w.heap.size + 1 < w3.heap.size; omega) _).mono (by have := HB.out.size; omega)
  · exact ((HB.out.trans (HB5.out.mono HB.out.size))).setCell (p := ⟨w.heap.size + 1, 0, none⟩) (by show w.heap.size ≤ w.heap.size + 1; omega) _
end Go.Proofs.YtdkoafmgenbkbaaDoor
