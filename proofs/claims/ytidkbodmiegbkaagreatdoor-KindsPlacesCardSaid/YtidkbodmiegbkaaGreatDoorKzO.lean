/- Chapter 09, outright: shifted, placed, walked. -/
import Derived.Test.YtidkbodmiegbkaaGreatDoorKzE
import Derived.Test.YtidkbodmiegbkaaGreatDoorKzJ
import Derived.Test.YtidkbodmiegbkaaGreatDoorKzK
namespace Go.Proofs.YtidkbodmiegbkaaGreatDoor
set_option linter.unusedSimpArgs false
set_option linter.unusedVariables false
open Go.RowKit

set_option maxRecDepth 100000 in
set_option maxHeartbeats 16000000 in
theorem shifted_any {d : ND} {kv : Value} (W W0 : World) (hk : SlR W0 W0.heap.size 1 IsI kv d.kids) (hW : Below W0.heap.size W0 W) (hl : d.kids.length ≤ 3) (hx : ∀ x ∈ d.kids, 0 ≤ x ∧ x ≤ 256) (fr m : Int) (hm : -1000 ≤ m ∧ m ≤ 1000) :
    Calls Tryz.prog 23 #[.agg #[.int .i64 d.kind, .string (txt d.text), .int .i64 d.num, kv], .int .i64 fr, .int .i64 m] W fun e w' => ∃ (a : Option Addr) (c : Nat), e = .returned (.agg #[.int .i64 d.kind, .string (txt d.text), .int .i64 d.num, .slice a d.kids.length c]) ∧ Own1 w' (W.heap.size + 2) 3 1 IsI (.slice a d.kids.length c) (shD fr m d).kids ∧ Below W.heap.size W w' := by
  obtain ⟨ka, kc, rfl, _⟩ := hk.form
  obtain ⟨kn, hkn⟩ : ∃ z, d.kids.length = z := ⟨_, rfl⟩
  rw [hkn] at hk hl ⊢
  obtain ⟨f, hf⟩ : ∃ f : Int → Int, f = fun x => if fr ≤ x then x + m else x := ⟨_, rfl⟩
  have hsh : (shD fr m d).kids = d.kids.map f := by rw [hf]; rfl
  rw [hsh]
  have HF := Lib.hid (fun x => show f x = if fr ≤ x then x + m else x by rw [hf])
  have HKS := Lib.hid hk
  have HW := Lib.hid hW
  have HKX := Lib.hid hx
  have HKN := Lib.hid hkn
  have kn3 : (kn : Int) ≤ 3 := by omega
  have m1 := hm.1
  have m2 := hm.2
  obtain ⟨jI, hi, hz, hs2, hby⟩ := info_parts info_I7
  have II := Lib.hid (And.intro hi (And.intro hz (And.intro hs2 hby)))
  have KN : Hid (Blk ((W.alloc (.cells #[.int .i64 d.kind, .string (txt d.text), .int .i64 d.num, .slice ka kn kc] 40)).alloc (.cells #[.int .i64 0, .string ⟨#[]⟩, .int .i64 0, .slice none 0 0] 40)) W.heap.size 40 #[.int .i64 d.kind, .string (txt d.text), .int .i64 d.num, .slice ka kn kc]) := Lib.hid ((Blk.new _ _ _).alloc _)
  have KR : Hid (Blk ((W.alloc (.cells #[.int .i64 d.kind, .string (txt d.text), .int .i64 d.num, .slice ka kn kc] 40)).alloc (.cells #[.int .i64 0, .string ⟨#[]⟩, .int .i64 0, .slice none 0 0] 40)) (W.heap.size + 1) 40 #[.int .i64 0, .string ⟨#[]⟩, .int .i64 0, .slice none 0 0]) := Lib.hid (Blk.new_ (by simp) _ _)
  have B0 : Hid (Below W.heap.size W ((W.alloc (.cells #[.int .i64 d.kind, .string (txt d.text), .int .i64 d.num, .slice ka kn kc] 40)).alloc (.cells #[.int .i64 0, .string ⟨#[]⟩, .int .i64 0, .slice none 0 0] 40))) := Lib.hid (((Below.refl _ _).alloc (Nat.le_refl _) _).alloc (by simp) _)
  clear hi hz hs2 hby hk hW hl hx hkn hf hsh hm
  go_enter Tryz.func23, Tryz.ntmps23
  go_upto_region 3 with fail
  generalize hW1 : ((W.alloc (.cells #[.int .i64 d.kind, .string (txt d.text), .int .i64 d.num, .slice ka kn kc] 40)).alloc (.cells #[.int .i64 0, .string ⟨#[]⟩, .int .i64 0, .slice none 0 0] 40)) = W1 at *
  clear hW1
  obtain ⟨b, hb⟩ : ∃ z, W.heap.size = z := ⟨_, rfl⟩
  have HB := Lib.hid hb
  rw [hb] at KN KR ⊢
  clear hb
  go_loopw [7, 8, 9] (fun v7 v8 _ wr => ∃ (j : Nat) (ra : Option Addr) (rc : Nat), j ≤ kn ∧ v8 = .int .i64 (j : Int) ∧ v7 = .slice ra j rc ∧ Hid (Own1 wr (b + 2) 3 1 IsI (.slice ra j rc) ((d.kids.take j).map f) ∧ Blk wr b 40 #[.int .i64 d.kind, .string (txt d.text), .int .i64 d.num, .slice ka kn kc] ∧ Blk wr (b + 1) 40 #[.int .i64 0, .string ⟨#[]⟩, .int .i64 0, .slice none 0 0] ∧ Below W.heap.size W wr)) (fun _ v8 _ _ => kn - (intOf v8).toNat)
  case atStart => exact ⟨0, none, 0, Nat.zero_le _, rfl, rfl, Lib.hid ⟨⟨[], ⟨rfl, .inl ⟨rfl, rfl⟩⟩, FlatR.nil_⟩, KN.out, KR.out, B0.out⟩⟩
  case round =>
    obtain ⟨j, ra, rc, hj, rfl, rfl, hr⟩ := hrel
    have OW := Lib.hid hr.out.1
    have KN1 := Lib.hid hr.out.2.1
    have KR1 := Lib.hid hr.out.2.2.1
    have B1 := Lib.hid hr.out.2.2.2
    clear hr KN KR B0
    have n3 : wr.cell? ⟨b, 3, none⟩ = some (.slice ka kn kc) := KN1.out.cell (i := 3) rfl
    have ln := KN1.out.lt
    have j0 : (0 : Int) ≤ (j : Int) := Int.natCast_nonneg _
    by_cases hlt : j < kn
    · obtain ⟨y, hy⟩ := get_some HKN.out hlt
      have HWR : Below W0.heap.size W0 wr := HW.out.trans (B1.out.mono HW.out.size)
      obtain ⟨bK, ok, xk, rfl, hbK, _, rfl, hxk⟩ := HKS.out.at_ hy
      have yk := (HWR.cell (p := ⟨bK, ok + j * 1, none⟩) hbK).trans (hxk 0 _ rfl)
      simp only [Nat.add_zero, Nat.mul_one] at yk
      have lbk : bK < wr.heap.size := Nat.lt_of_lt_of_le hbK HWR.size
      obtain ⟨y0, y1⟩ := HKX.out y (List.mem_iff_getElem?.2 ⟨j, hy⟩)
      have j1 : (j : Int) < (kn : Int) := by omega
      have HLT := Lib.hid hlt
      have HTK : Hid (((d.kids.take j).map f).length = j ∧ (d.kids.take (j + 1)).map f = (d.kids.take j).map f ++ [f y]) := Lib.hid ⟨by rw [List.length_map, List.length_take, HKN.out]; omega, by rw [List.take_add_one, hy]; simp⟩
      have hfy := HF.out y
      clear hy hxk hlt hbK HWR
      by_cases hge : fr ≤ y
      · have wy : IntKind.i64.wrap (y + m) = y + m := by rw [IntKind.wrap_i64]; omega
        have dge : decide (y ≥ fr) = true := decide_eq_true hge
        have dge2 : decide (fr ≤ y) = true := decide_eq_true hge
        rw [if_pos hge] at hfy
        have HTV : Hid ((d.kids.take (j + 1)).map f = (d.kids.take j).map f ++ [y + m]) := Lib.hid (by rw [HTK.out.2, hfy])
        clear hge hfy
        go_wp2_with (first
          | (at_builtin
             go_must (refine wpList_append_list rfl (.tmp 28) (.tmp 30) _ (by rfl) (b + 2) (wr.heap.size + 1) 3 jI _ 1 8 Tryz.underlying33 II.out.1 II.out.2.1 II.out.2.2.1 II.out.2.2.2 rfl (by omega) (R := IsI) (l := (d.kids.take j).map f) (m := [y + m]) (.slice ra j rc) (by rfl) (by exact OW.out.alloc (.cells #[.int .i64 (y + m)] 3)) (some ⟨wr.heap.size, 0, none⟩) 1 1 (by rfl) (SlR.new1 (w := wr) (e := 3) (g := wr.heap.size) rfl (x := [.int .i64 (y + m)]) rfl (R := IsI) (y := y + m) rfl) (j + 1) (by rw [HTK.out.1]) IsI.one (by have := HTK.out.1; unfold maxLen; simp at this ⊢; omega) (by have := HTK.out.1; simp at this ⊢; omega) (by simp; omega) ?_)
             intro xa xc w5 hown hgr
             have O5 := Lib.hid (And.intro hown hgr)
             clear hown hgr)
          | fail)
        go_roundw
        case rel => exact ⟨j + 1, xa, xc, HLT.out, by go_num, rfl, Lib.hid ⟨by rw [HTV.out]; exact O5.out.1, (KN1.out.alloc _).grown O5.out.2 (fun e => by have := (OW.out.block b e.symm).1; omega), (KR1.out.alloc _).grown O5.out.2 (fun e => by have := (OW.out.block (b + 1) e.symm).1; omega), (B1.out.alloc B1.out.size _).grown O5.out.2 (by have := B1.out.size; simp; omega) (fun b' hb' => by have := (OW.out.block b' hb').1; have := HB.out; omega)⟩⟩
        case measure => simp [intOf]; have := HLT.out; omega
      · have wy : IntKind.i64.wrap (y + m) = y + m := by rw [IntKind.wrap_i64]; omega
        have dge : decide (y ≥ fr) = false := decide_eq_false hge
        have dge2 : decide (fr ≤ y) = false := decide_eq_false hge
        rw [if_neg hge] at hfy
        have HTV : Hid ((d.kids.take (j + 1)).map f = (d.kids.take j).map f ++ [y]) := Lib.hid (by rw [HTK.out.2, hfy])
        clear hge hfy
        go_wp2_with (first
          | (at_builtin
             go_must (refine wpList_append_list rfl (.tmp 28) (.tmp 30) _ (by rfl) (b + 2) (wr.heap.size + 1) 3 jI _ 1 8 Tryz.underlying33 II.out.1 II.out.2.1 II.out.2.2.1 II.out.2.2.2 rfl (by omega) (R := IsI) (l := (d.kids.take j).map f) (m := [y]) (.slice ra j rc) (by rfl) (by exact OW.out.alloc (.cells #[.int .i64 (y)] 3)) (some ⟨wr.heap.size, 0, none⟩) 1 1 (by rfl) (SlR.new1 (w := wr) (e := 3) (g := wr.heap.size) rfl (x := [.int .i64 (y)]) rfl (R := IsI) (y := y) rfl) (j + 1) (by rw [HTK.out.1]) IsI.one (by have := HTK.out.1; unfold maxLen; simp at this ⊢; omega) (by have := HTK.out.1; simp at this ⊢; omega) (by simp; omega) ?_)
             intro xa xc w5 hown hgr
             have O5 := Lib.hid (And.intro hown hgr)
             clear hown hgr)
          | fail)
        go_roundw
        case rel => exact ⟨j + 1, xa, xc, HLT.out, by go_num, rfl, Lib.hid ⟨by rw [HTV.out]; exact O5.out.1, (KN1.out.alloc _).grown O5.out.2 (fun e => by have := (OW.out.block b e.symm).1; omega), (KR1.out.alloc _).grown O5.out.2 (fun e => by have := (OW.out.block (b + 1) e.symm).1; omega), (B1.out.alloc B1.out.size _).grown O5.out.2 (by have := B1.out.size; simp; omega) (fun b' hb' => by have := (OW.out.block b' hb').1; have := HB.out; omega)⟩⟩
        case measure => simp [intOf]; have := HLT.out; omega
    · have hjk : j = kn := by omega
      have d1 : decide ((j : Int) < (kn : Int)) = false := by rw [hjk]; simp
      have d2 : decide (j < kn) = false := by rw [hjk]; simp
      have hall : d.kids.take j = d.kids := List.take_of_length_le (by rw [HKN.out, hjk]; exact Nat.le_refl _)
      rw [hall] at OW
      rw [hjk] at OW ⊢
      have n0 : wr.cell? ⟨b, 0, none⟩ = some (.int .i64 d.kind) := KN1.out.cell (i := 0) rfl
      have n1 : wr.cell? ⟨b, 1, none⟩ = some (.string (txt d.text)) := KN1.out.cell (i := 1) rfl
      have n2 : wr.cell? ⟨b, 2, none⟩ = some (.int .i64 d.num) := KN1.out.cell (i := 2) rfl
      have zn := KN1.out.frozen 3
      have zr0 := KR1.out.frozen 0
      have zr1 := KR1.out.frozen 1
      have zr2 := KR1.out.frozen 2
      have zr3 := KR1.out.frozen 3
      have lr := KR1.out.lt
      have r0 : wr.cell? ⟨b + 1, 0, none⟩ = some (.int .i64 0) := KR1.out.cell (i := 0) rfl
      have r1 : wr.cell? ⟨b + 1, 1, none⟩ = some (.string ⟨#[]⟩) := KR1.out.cell (i := 1) rfl
      have r2 : wr.cell? ⟨b + 1, 2, none⟩ = some (.int .i64 0) := KR1.out.cell (i := 2) rfl
      have r3 : wr.cell? ⟨b + 1, 3, none⟩ = some (.slice none 0 0) := KR1.out.cell (i := 3) rfl
      clear hlt hjk hall hj
      go_wp2_with fail
      generalize hW9 : World.setCell (World.setCell (World.setCell (World.setCell (World.setCell wr _ _) _ _) _ _) _ _) _ _ = W9
      have K9 : Blk W9 (b + 1) 40 #[.int .i64 d.kind, .string (txt d.text), .int .i64 d.num, .slice ra kn rc] := by rw [← hW9]; exact (((((KR1.out.far (p := ⟨b, 3, none⟩) (by show b + 1 ≠ b; omega) (.slice ra kn rc)).set_ 0 (.int .i64 d.kind)).set_ 1 (.string (txt d.text))).set_ 2 (.int .i64 d.num)).set_ 3 (.slice ra kn rc))
      have c0 : W9.cell? ⟨b + 1, 0, none⟩ = some (.int .i64 d.kind) := K9.cell (i := 0) rfl
      have c1 : W9.cell? ⟨b + 1, 1, none⟩ = some (.string (txt d.text)) := K9.cell (i := 1) rfl
      have c2 : W9.cell? ⟨b + 1, 2, none⟩ = some (.int .i64 d.num) := K9.cell (i := 2) rfl
      have c3 : W9.cell? ⟨b + 1, 3, none⟩ = some (.slice ra kn rc) := K9.cell (i := 3) rfl
      have o9 : Own1 W9 (b + 2) 3 1 IsI (.slice ra kn rc) (d.kids.map f) := by rw [← hW9]; exact (((((OW.out.setFar (p := ⟨b, 3, none⟩) (by show b < b + 2; omega) _).setFar (p := ⟨b + 1, 0, none⟩) (by show b + 1 < b + 2; omega) _).setFar (p := ⟨b + 1, 1, none⟩) (by show b + 1 < b + 2; omega) _).setFar (p := ⟨b + 1, 2, none⟩) (by show b + 1 < b + 2; omega) _).setFar (p := ⟨b + 1, 3, none⟩) (by show b + 1 < b + 2; omega) _)
      have b9 : Below W.heap.size W W9 := by rw [← hW9]; exact (((((B1.out.setCell (p := ⟨b, 3, none⟩) (by show W.heap.size ≤ b; have := HB.out; omega) _).setCell (p := ⟨b + 1, 0, none⟩) (by show W.heap.size ≤ b + 1; have := HB.out; omega) _).setCell (p := ⟨b + 1, 1, none⟩) (by show W.heap.size ≤ b + 1; have := HB.out; omega) _).setCell (p := ⟨b + 1, 2, none⟩) (by show W.heap.size ≤ b + 1; have := HB.out; omega) _).setCell (p := ⟨b + 1, 3, none⟩) (by show W.heap.size ≤ b + 1; have := HB.out; omega) _)
      refine bodyPost_ret (v := .agg #[.int .i64 d.kind, .string (txt d.text), .int .i64 d.num, .slice ra kn rc]) (by simp [results, Tryz.results23, go_sem, c0, c1, c2, c3]) rfl ?_
      exact ⟨ra, rc, rfl, by rw [HB.out]; exact o9, b9⟩
end Go.Proofs.YtidkbodmiegbkaaGreatDoor
