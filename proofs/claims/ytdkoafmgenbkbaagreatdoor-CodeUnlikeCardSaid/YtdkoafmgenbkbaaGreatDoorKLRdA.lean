/- - -/
import Derived.Test.YtdkoafmgenbkbaaGreatDoorKM2
set_option maxRecDepth 100000
set_option maxHeartbeats 32000000
set_option linter.unusedSimpArgs false
set_option linter.unusedVariables false
namespace Go.Proofs.YtdkoafmgenbkbaaGreatDoor
open Go.RowKit
def MaxIs (w : World) : Prop := ∃ m, w.cell? ⟨1, 0, none⟩ = some (.int .i64 m)
theorem MaxIs.below {w w' : World} (h : MaxIs w) (hb : Below w.heap.size w w') : MaxIs w' := by
  obtain ⟨m, hm⟩ := h
  exact ⟨m, (hb.cell (p := ⟨1, 0, none⟩) (cell_lt hm)).trans hm⟩
structure Lays (w : World) : Prop where
  words : WordsIs w
  vars : Vars w
  mx : MaxIs w
theorem Lays.below {w w' : World} (h : Lays w) (hb : Below w.heap.size w w') : Lays w' := ⟨h.words.below hb, h.vars.below hb, h.mx.below hb⟩
theorem cut_any (s : ByteArray) (c : UInt8) (hs : s.size ≤ 1048576) (w : World) (hm : MaxIs w) : Calls Tryz.prog 24 #[.string s, .string ⟨#[c]⟩] w fun e w' => e = .returned (.tuple #[.string (txt (aheadC c.toNat (bs s))), .string (txt (behindC c.toNat (bs s))), .bool ((bs s).contains c.toNat)]) ∧ Below w.heap.size w w' := by
  obtain ⟨m, hm⟩ := hm
  refine (Tryz.strings_Cut s ⟨#[c]⟩ m w (by omega) hm).mono ?_
  rintro e w' ⟨rfl, n, rfl⟩
  obtain ⟨h1, h2, h3⟩ := cut_txt s c
  refine ⟨?_, below_drewN zB n⟩
  rw [show (⟨#[c]⟩ : ByteArray).data.toList = [c] from rfl, h1, h2, h3]
theorem index_any (x : ByteArray) (w : World) (hw : WordsIs w) : Calls Tryz.prog 39 #[.slice (some ⟨0, 0, none⟩) 41 41, .string x] w fun e w' => e = .returned (.int .i64 (opN x)) ∧ w' = w := by
  obtain ⟨t, fr, hb⟩ := words_block hw
  have hlen : wordsC.length = 41 := by decide
  refine (Tryz.slices_Index_string 0 0 41 41 wordsC x w (by rw [hlen]; omega) (by omega) (fun j hj => ?_)).mono ?_
  · have h3 : wordsV[j]? = some (.string (wordsC.getD j ByteArray.empty)) := by
      unfold wordsV
      rw [List.getElem?_toArray, List.getElem?_map, List.getElem?_eq_getElem hj]
      simp [List.getD, hj]
    simp [World.cell?, hb, h3]
  · rintro e w' ⟨rfl, rfl⟩
    rw [List.take_of_length_le (by rw [hlen]; omega)]
    exact ⟨rfl, rfl⟩
theorem Blk.set4 {w : World} {b : Nat} {t : TypeId} {x0 x1 x2 x3 : Value} (h : Blk w b t #[x0, x1, x2, x3]) (v0 v1 v2 v3 : Value) : Blk ((((w.setCell ⟨b, 0, none⟩ v0).setCell ⟨b, 1, none⟩ v1).setCell ⟨b, 2, none⟩ v2).setCell ⟨b, 3, none⟩ v3) b t #[v0, v1, v2, v3] := (((h.set_ 0 v0).set_ 1 v1).set_ 2 v2).set_ 3 v3
theorem bel4 {w w' : World} (h : Below w.heap.size w w') (v0 v1 v2 v3 : Value) : Below w.heap.size w ((((w'.setCell ⟨w.heap.size, 0, none⟩ v0).setCell ⟨w.heap.size, 1, none⟩ v1).setCell ⟨w.heap.size, 2, none⟩ v2).setCell ⟨w.heap.size, 3, none⟩ v3) := (((h.setCell (p := ⟨w.heap.size, 0, none⟩) zL v0).setCell (p := ⟨w.heap.size, 1, none⟩) zL v1).setCell (p := ⟨w.heap.size, 2, none⟩) zL v2).setCell (p := ⟨w.heap.size, 3, none⟩) zL v3
def LineK (w : World) (l : List Nat) (e : Ending) (w' : World) : Prop :=
  ∃ (op arg int : Int) (t : ByteArray) (b : Bool), e = .returned (.tuple #[.agg #[.int .i64 op, .int .i64 arg, .int .i64 int, .string t], .bool b]) ∧ Ins.ok ⟨op, arg, int, t⟩ ∧ Below w.heap.size w w' ∧ (b = true → readN l = some ⟨op, arg, int, t⟩) ∧ (b = false → readN l = none)
theorem wf_of {v : Int} (h1 : -9223372036854775808 ≤ v) (h2 : v ≤ 9223372036854775807) : (Lit.int .i64 v).wf = true := by
  simpa [Lit.wf, IntKind.min, IntKind.max, IntKind.signed, IntKind.bits] using ⟨h1, h2⟩
theorem Blk.drN {w : World} {b : Nat} {t : TypeId} {cs : Array Value} (h : Blk w b t cs) (n : Nat) : Blk (w.drewN n) b t cs := h
theorem Blk.turn {w : World} {b : Nat} {t : TypeId} {cs cs' : Array Value} (h : Blk w b t cs) (e : cs = cs') : Blk w b t cs' := by subst e; exact h
theorem ok_of {op a i : Int} {t : ByteArray} (h : (Lit.int .i64 op).wf = true) (ha : (Lit.int .i64 a).wf = true) (hi : (Lit.int .i64 i).wf = true) (ht : t.size ≤ maxLen) : Ins.ok ⟨op, a, i, t⟩ := ⟨h, ha, hi, ht⟩
theorem ok0 {op : Int} (h : (Lit.int .i64 op).wf = true) : Ins.ok ⟨op, 0, 0, ⟨#[]⟩⟩ := ⟨h, wf_of (v := 0) (by omega) (by omega), wf_of (v := 0) (by omega) (by omega), by show 0 ≤ maxLen; omega⟩
theorem line_any (l : List Nat) (hb : Bytes l) (hl : l.length ≤ 1048576) (w : World) (hw : Lays w) : Calls Tryz.prog 25 #[.string (txt l)] w (LineK w l) := by
  obtain ⟨wd, hwd⟩ : ∃ x, txt (aheadC 32 l) = x := ⟨_, rfl⟩
  obtain ⟨op, hop⟩ : ∃ x, opN wd = x := ⟨_, rfl⟩
  obtain ⟨rest, hrest⟩ : ∃ x, behindC 32 l = x := ⟨_, rfl⟩
  obtain ⟨more, hmore⟩ : ∃ x, l.contains 32 = x := ⟨_, rfl⟩
  have hrb : Bytes rest := by rw [← hrest]; exact (ahead_bytes hb).2
  have hrl : rest.length ≤ 1048576 := by rw [← hrest]; have := (ahead_len 32 l).2.1; omega
  have hrg := op_range wd
  rw [hop] at hrg
  obtain ⟨hr1, hr2⟩ := hrg
  have CUT : Hid (∀ W, Below w.heap.size w W → Calls Tryz.prog 24 #[.string (txt l), .string ⟨#[32]⟩] W fun e w' => e = .returned (.tuple #[.string wd, .string (txt rest), .bool more]) ∧ Below W.heap.size W w') := zH (fun W hW => by
    have h := cut_any (txt l) 32 (by rw [txt_size]; exact hl) W (hw.mx.below hW)
    rw [bs_txt hb] at h
    rw [← hwd, ← hrest, ← hmore]
    exact h)
  have CUTB : Hid (Calls Tryz.prog 24 #[.string (txt l), .string ⟨#[32]⟩] (w.alloc (.cells #[.int .i64 0, .int .i64 0, .int .i64 0, .string ⟨#[]⟩] 42)) fun e w' => e = .returned (.tuple #[.string wd, .string (txt rest), .bool more]) ∧ Blk w' w.heap.size 42 #[.int .i64 0, .int .i64 0, .int .i64 0, .string ⟨#[]⟩] ∧ Below w.heap.size w w') := zH ((CUT.out _ (zB.alloc zL _)).mono fun e w' h => ⟨h.1, (Blk.new w _ _).below h.2 (by simp), (zB.alloc zL _).trans (h.2.mono (by simp))⟩)
  have IDX : Hid (∀ W, Below w.heap.size w W → Calls Tryz.prog 39 #[.slice (some ⟨0, 0, none⟩) 41 41, .string wd] W fun e w' => e = .returned (.int .i64 op) ∧ w' = W) := zH (fun W hW => by rw [← hop]; exact index_any wd W (hw.words.below hW))
  have RD : Hid (readN l = if 1 ≤ op ∧ (more = true ↔ hasN op ≠ 0) then (putN op rest).bind fun x => if plainN x = true then some x else none else none) := zH (by unfold readN; rw [hwd, hop, hrest, hmore])
  have hwo : (Lit.int .i64 op).wf = true := by simp [Lit.wf, IntKind.min, IntKind.max, IntKind.signed, IntKind.bits]; omega
  have HWO := zH hwo
  have HRB := zH hrb
  have HV := zH hw.vars
  have HRL := zH hrl
  clear hwd hop hrest hmore hrb hw hwo hb hl hrl
  by_cases h1 : op < 1
  · go_enter Tryz.func25, Tryz.ntmps25
    go_upto_region 5 with (first
      | (go_at_call 24; refine CUTB.out.mono ?_; rintro e w2 ⟨rfl, B2, L2⟩; have s2 := B2.lt; obtain ⟨c20, c21, c22, c23⟩ := B2.k4; obtain ⟨f2, f21, f22, f23⟩ := B2.f4; have H2 := zH (And.intro B2 L2); clear B2 L2)
      | (go_at_call 39; refine (IDX.out _ H2.out.2).mono ?_; rintro e w3 ⟨rfl, rfl⟩)
      | fail)
    generalize hV : World.alloc _ _ = w5
    have X5 : Blk w5 w3.heap.size 42 #[.int .i64 op, .int .i64 0, .int .i64 0, .string ⟨#[]⟩] := by rw [← hV]; exact (Blk.new w3 42 #[.int .i64 op, .int .i64 0, .int .i64 0, .string ⟨#[]⟩])
    have R5 : Blk w5 w.heap.size 42 #[.int .i64 0, .int .i64 0, .int .i64 0, .string ⟨#[]⟩] := by rw [← hV]; exact (H2.out.1.alloc _)
    have L5 : Below w.heap.size w w5 := by rw [← hV]; exact (H2.out.2.alloc H2.out.2.size _)
    have y0 : w5.cell? ⟨w3.heap.size, 0, none⟩ = some (.int .i64 op) := X5.cell rfl
    have yf0 := X5.frozen 0
    have z0 : w5.cell? ⟨w.heap.size, 0, none⟩ = some (.int .i64 0) := R5.cell rfl
    have zf0 := R5.frozen 0
    have y1 : w5.cell? ⟨w3.heap.size, 1, none⟩ = some (.int .i64 0) := X5.cell rfl
    have yf1 := X5.frozen 1
    have z1 : w5.cell? ⟨w.heap.size, 1, none⟩ = some (.int .i64 0) := R5.cell rfl
    have zf1 := R5.frozen 1
    have y2 : w5.cell? ⟨w3.heap.size, 2, none⟩ = some (.int .i64 0) := X5.cell rfl
    have yf2 := X5.frozen 2
    have z2 : w5.cell? ⟨w.heap.size, 2, none⟩ = some (.int .i64 0) := R5.cell rfl
    have zf2 := R5.frozen 2
    have y3 : w5.cell? ⟨w3.heap.size, 3, none⟩ = some (.string ⟨#[]⟩) := X5.cell rfl
    have yf3 := X5.frozen 3
    have z3 : w5.cell? ⟨w.heap.size, 3, none⟩ = some (.string ⟨#[]⟩) := R5.cell rfl
    have zf3 := R5.frozen 3
    have K5 := zH (And.intro X5 (And.intro R5 L5))
    clear hV X5 R5 L5 c20 c21 c22 c23 f2 f21 f22 f23
    go_wp2_with fail
    generalize hz : World.setCell _ _ _ = wz
    have RZ : Blk wz w.heap.size 42 #[.int .i64 op, .int .i64 0, .int .i64 0, .string ⟨#[]⟩] := by rw [← hz]; have h := (K5.out.2.1.set4 (.int .i64 op) (.int .i64 0) (.int .i64 0) (.string ⟨#[]⟩)); simpa using h
    have LZ : Below w.heap.size w wz := by rw [← hz]; exact (bel4 K5.out.2.2 (.int .i64 op) (.int .i64 0) (.int .i64 0) (.string ⟨#[]⟩))
    clear hz
    obtain ⟨qz0, qz1, qz2, qz3⟩ := RZ.k4
    refine bodyPost_ret (v := .tuple #[.agg #[.int .i64 op, .int .i64 0, .int .i64 0, .string ⟨#[]⟩], .bool false]) (by simp [results, Tryz.results25, go_sem, qz0, qz1, qz2, qz3]) rfl ?_
    exact ⟨op, 0, 0, ⟨#[]⟩, false, rfl, ok0 HWO.out, LZ, (fun h => by cases h), fun _ => by rw [RD.out, if_neg (fun h => by omega)]⟩
  · have h1' : 1 ≤ op := by omega
    have WH := zH (fun W => what_any op h1' hr2 W)
    have PL := zH (fun (d : Ins) (hd : d.ok) W => plain_any d hd W)
    have hsix := hasN_six op
    have H1 := zH h1'
    clear h1'
    rcases hsix with e | e | e | e | e | e
    all_goals rw [e] at WH
    all_goals have HE := zH e
    all_goals clear e
    · rcases more with _ | _
      · go_enter Tryz.func25, Tryz.ntmps25
        go_wp2_with (first
          | (go_at_call 24; refine CUTB.out.mono ?_; rintro e w2 ⟨rfl, B2, L2⟩; have s2 := B2.lt; obtain ⟨c20, c21, c22, c23⟩ := B2.k4; obtain ⟨f2, f21, f22, f23⟩ := B2.f4; have H2 := zH (And.intro B2 L2); clear B2 L2)
          | (go_at_call 39; refine (IDX.out _ H2.out.2).mono ?_; rintro e w3 ⟨rfl, rfl⟩)
          | (go_at_call 31; refine (WH.out _).mono ?_; rintro e w4 ⟨rfl, nq, rfl⟩)
          | fail)
        generalize hW : World.drewN _ _ = W9
        have X9 : Blk W9 w3.heap.size 42 #[.int .i64 op, .int .i64 0, .int .i64 0, .string ⟨#[]⟩] := by rw [← hW]; exact (Blk.drN ((Blk.new w3 42 #[.int .i64 op, .int .i64 0, .int .i64 0, .string ⟨#[]⟩])) _)
        have R9 : Blk W9 w.heap.size 42 #[.int .i64 0, .int .i64 0, .int .i64 0, .string ⟨#[]⟩] := by rw [← hW]; exact (Blk.drN (H2.out.1.alloc _) _)
        have L9 : Below w.heap.size w W9 := by rw [← hW]; exact (below_drewN (H2.out.2.alloc H2.out.2.size _) _)
        obtain ⟨x0, x1, x2, x3⟩ := X9.k4
        obtain ⟨r0, r1, r2, r3⟩ := R9.k4
        obtain ⟨g0, g1, g2, g3⟩ := R9.f4
        have hok : Ins.ok ⟨op, 0, 0, ⟨#[]⟩⟩ := ok0 HWO.out
        have HOK := zH hok
        have PL9 := zH (PL.out ⟨op, 0, 0, ⟨#[]⟩⟩ hok)
        have K9 : Hid (Blk W9.drew w3.heap.size 42 #[.int .i64 op, .int .i64 0, .int .i64 0, .string ⟨#[]⟩] ∧ Blk W9.drew w.heap.size 42 #[.int .i64 0, .int .i64 0, .int .i64 0, .string ⟨#[]⟩] ∧ Below w.heap.size w W9.drew) := zH ⟨X9, R9, L9.drew⟩
        obtain ⟨pb, hpb⟩ : ∃ x, plainN ⟨op, 0, 0, ⟨#[]⟩⟩ = x := ⟨_, rfl⟩
        rw [hpb] at PL9
        have RD9 : Hid (readN l = if pb = true then some ⟨op, 0, 0, ⟨#[]⟩⟩ else none) := zH (by rw [RD.out, if_pos ⟨H1.out, by simp [HE.out]⟩]; unfold putN; simp only [HE.out]; simp only [Option.bind_some, hpb])
        clear hW X9 R9 L9 hok hpb c20 c21 c22 c23 f2 f21 f22 f23
        go_region_law (first
          | (go_simp; go_at_call 22
             go_must (refine (PL9.out _).mono ?_)
             rintro e w6 ⟨rfl, hb6⟩
             first
               | (have R6 : Blk w6 w.heap.size 42 #[.int .i64 0, .int .i64 0, .int .i64 0, .string ⟨#[]⟩] := K9.out.2.1.below hb6 K9.out.2.1.lt
                  have L6 : Below w.heap.size w w6 := K9.out.2.2.trans (hb6.mono K9.out.2.2.size)
                  obtain ⟨q0, q1, q2, q3⟩ := R6.k4
                  have X6 : Blk w6 w3.heap.size 42 #[.int .i64 op, .int .i64 0, .int .i64 0, .string ⟨#[]⟩] := K9.out.1.below hb6 K9.out.1.lt
                  obtain ⟨u0, u1, u2, u3⟩ := X6.k4
                  obtain ⟨p0, p1, p2, p3⟩ := R6.f4
                  have HL6 := zH (And.intro R6 L6)
                  clear R6 L6 hb6 X6)
               | (have R6 : Blk w6 w.heap.size 42 #[.int .i64 op, .int .i64 0, .int .i64 0, .string ⟨#[]⟩] := (Blk.turn (K9.out.2.1.set4 (.int .i64 op) (.int .i64 0) (.int .i64 0) (.string ⟨#[]⟩)) (cs' := #[.int .i64 op, .int .i64 0, .int .i64 0, .string ⟨#[]⟩]) rfl).below hb6 (by simpa using K9.out.2.1.lt)
                  have L6 : Below w.heap.size w w6 := (bel4 K9.out.2.2 (.int .i64 op) (.int .i64 0) (.int .i64 0) (.string ⟨#[]⟩)).trans (hb6.mono (by have := K9.out.2.2.size; simpa using this))
                  obtain ⟨q0, q1, q2, q3⟩ := R6.k4
                  have HL6 := zH (And.intro R6 L6)
                  clear R6 L6 hb6))
          | fail)
        all_goals
          go_wp2_with fail
          first
            | (have _t := p0
               generalize hz : World.setCell _ _ _ = wz
               have RZ : Blk wz w.heap.size 42 #[.int .i64 op, .int .i64 0, .int .i64 0, .string ⟨#[]⟩] := by rw [← hz]; have h := (HL6.out.1.set4 (.int .i64 op) (.int .i64 0) (.int .i64 0) (.string ⟨#[]⟩)); simpa using h
               have LZ : Below w.heap.size w wz := by rw [← hz]; exact (bel4 HL6.out.2 (.int .i64 op) (.int .i64 0) (.int .i64 0) (.string ⟨#[]⟩))
               clear hz
               obtain ⟨qz0, qz1, qz2, qz3⟩ := RZ.k4
               refine bodyPost_ret (v := .tuple #[.agg #[.int .i64 op, .int .i64 0, .int .i64 0, .string ⟨#[]⟩], .bool pb]) (by simp [results, Tryz.results25, go_sem, qz0, qz1, qz2, qz3]) rfl ?_
               exact ⟨op, 0, 0, ⟨#[]⟩, pb, rfl, HOK.out, LZ, fun h => by rw [RD9.out, if_pos h], fun h => by rw [RD9.out, h]; rfl⟩)
            | (have R6 := HL6.out.1
               obtain ⟨qz0, qz1, qz2, qz3⟩ := R6.k4
               refine bodyPost_ret (v := .tuple #[.agg #[.int .i64 op, .int .i64 0, .int .i64 0, .string ⟨#[]⟩], .bool pb]) (by simp [results, Tryz.results25, go_sem, qz0, qz1, qz2, qz3]) rfl ?_
               exact ⟨op, 0, 0, ⟨#[]⟩, pb, rfl, HOK.out, HL6.out.2, fun h => by rw [RD9.out, if_pos h], fun h => by rw [RD9.out, h]; rfl⟩)
      · go_enter Tryz.func25, Tryz.ntmps25
        go_upto_region 8 with (first
          | (go_at_call 24; refine CUTB.out.mono ?_; rintro e w2 ⟨rfl, B2, L2⟩; have s2 := B2.lt; obtain ⟨c20, c21, c22, c23⟩ := B2.k4; obtain ⟨f2, f21, f22, f23⟩ := B2.f4; have H2 := zH (And.intro B2 L2); clear B2 L2)
          | (go_at_call 39; refine (IDX.out _ H2.out.2).mono ?_; rintro e w3 ⟨rfl, rfl⟩)
          | (go_at_call 31; refine (WH.out _).mono ?_; rintro e w4 ⟨rfl, nq, rfl⟩)
          | fail)
        generalize hV : World.drewN _ _ = w5
        have X5 : Blk w5 w3.heap.size 42 #[.int .i64 op, .int .i64 0, .int .i64 0, .string ⟨#[]⟩] := by rw [← hV]; exact (Blk.drN (Blk.new w3 42 #[.int .i64 op, .int .i64 0, .int .i64 0, .string ⟨#[]⟩]) _)
        have R5 : Blk w5 w.heap.size 42 #[.int .i64 0, .int .i64 0, .int .i64 0, .string ⟨#[]⟩] := by rw [← hV]; exact (Blk.drN (H2.out.1.alloc _) _)
        have L5 : Below w.heap.size w w5 := by rw [← hV]; exact (below_drewN (H2.out.2.alloc H2.out.2.size _) _)
        have y0 : w5.cell? ⟨w3.heap.size, 0, none⟩ = some (.int .i64 op) := X5.cell rfl
        have yf0 := X5.frozen 0
        have z0 : w5.cell? ⟨w.heap.size, 0, none⟩ = some (.int .i64 0) := R5.cell rfl
        have zf0 := R5.frozen 0
        have y1 : w5.cell? ⟨w3.heap.size, 1, none⟩ = some (.int .i64 0) := X5.cell rfl
        have yf1 := X5.frozen 1
        have z1 : w5.cell? ⟨w.heap.size, 1, none⟩ = some (.int .i64 0) := R5.cell rfl
        have zf1 := R5.frozen 1
        have y2 : w5.cell? ⟨w3.heap.size, 2, none⟩ = some (.int .i64 0) := X5.cell rfl
        have yf2 := X5.frozen 2
        have z2 : w5.cell? ⟨w.heap.size, 2, none⟩ = some (.int .i64 0) := R5.cell rfl
        have zf2 := R5.frozen 2
        have y3 : w5.cell? ⟨w3.heap.size, 3, none⟩ = some (.string ⟨#[]⟩) := X5.cell rfl
        have yf3 := X5.frozen 3
        have z3 : w5.cell? ⟨w.heap.size, 3, none⟩ = some (.string ⟨#[]⟩) := R5.cell rfl
        have zf3 := R5.frozen 3
        have K5 := zH (And.intro X5 (And.intro R5 L5))
        clear hV X5 R5 L5 c20 c21 c22 c23 f2 f21 f22 f23
        go_wp2_with fail
        generalize hz : World.setCell _ _ _ = wz
        have RZ : Blk wz w.heap.size 42 #[.int .i64 op, .int .i64 0, .int .i64 0, .string ⟨#[]⟩] := by rw [← hz]; have h := (K5.out.2.1.set4 (.int .i64 op) (.int .i64 0) (.int .i64 0) (.string ⟨#[]⟩)); simpa using h
        have LZ : Below w.heap.size w wz := by rw [← hz]; exact (bel4 K5.out.2.2 (.int .i64 op) (.int .i64 0) (.int .i64 0) (.string ⟨#[]⟩))
        clear hz
        obtain ⟨qz0, qz1, qz2, qz3⟩ := RZ.k4
        refine bodyPost_ret (v := .tuple #[.agg #[.int .i64 op, .int .i64 0, .int .i64 0, .string ⟨#[]⟩], .bool false]) (by simp [results, Tryz.results25, go_sem, qz0, qz1, qz2, qz3]) rfl ?_
        exact ⟨op, 0, 0, ⟨#[]⟩, false, rfl, ok0 HWO.out, LZ, (fun h => by cases h), fun _ => by rw [RD.out, if_neg (by simp [HE.out])]⟩
    · rcases more with _ | _
      · go_enter Tryz.func25, Tryz.ntmps25
        go_upto_region 8 with (first
          | (go_at_call 24; refine CUTB.out.mono ?_; rintro e w2 ⟨rfl, B2, L2⟩; have s2 := B2.lt; obtain ⟨c20, c21, c22, c23⟩ := B2.k4; obtain ⟨f2, f21, f22, f23⟩ := B2.f4; have H2 := zH (And.intro B2 L2); clear B2 L2)
          | (go_at_call 39; refine (IDX.out _ H2.out.2).mono ?_; rintro e w3 ⟨rfl, rfl⟩)
          | (go_at_call 31; refine (WH.out _).mono ?_; rintro e w4 ⟨rfl, nq, rfl⟩)
          | fail)
        generalize hV : World.drewN _ _ = w5
        have X5 : Blk w5 w3.heap.size 42 #[.int .i64 op, .int .i64 0, .int .i64 0, .string ⟨#[]⟩] := by rw [← hV]; exact (Blk.drN (Blk.new w3 42 #[.int .i64 op, .int .i64 0, .int .i64 0, .string ⟨#[]⟩]) _)
        have R5 : Blk w5 w.heap.size 42 #[.int .i64 0, .int .i64 0, .int .i64 0, .string ⟨#[]⟩] := by rw [← hV]; exact (Blk.drN (H2.out.1.alloc _) _)
        have L5 : Below w.heap.size w w5 := by rw [← hV]; exact (below_drewN (H2.out.2.alloc H2.out.2.size _) _)
        have y0 : w5.cell? ⟨w3.heap.size, 0, none⟩ = some (.int .i64 op) := X5.cell rfl
        have yf0 := X5.frozen 0
        have z0 : w5.cell? ⟨w.heap.size, 0, none⟩ = some (.int .i64 0) := R5.cell rfl
        have zf0 := R5.frozen 0
        have y1 : w5.cell? ⟨w3.heap.size, 1, none⟩ = some (.int .i64 0) := X5.cell rfl
        have yf1 := X5.frozen 1
        have z1 : w5.cell? ⟨w.heap.size, 1, none⟩ = some (.int .i64 0) := R5.cell rfl
        have zf1 := R5.frozen 1
        have y2 : w5.cell? ⟨w3.heap.size, 2, none⟩ = some (.int .i64 0) := X5.cell rfl
        have yf2 := X5.frozen 2
        have z2 : w5.cell? ⟨w.heap.size, 2, none⟩ = some (.int .i64 0) := R5.cell rfl
        have zf2 := R5.frozen 2
        have y3 : w5.cell? ⟨w3.heap.size, 3, none⟩ = some (.string ⟨#[]⟩) := X5.cell rfl
        have yf3 := X5.frozen 3
        have z3 : w5.cell? ⟨w.heap.size, 3, none⟩ = some (.string ⟨#[]⟩) := R5.cell rfl
        have zf3 := R5.frozen 3
        have K5 := zH (And.intro X5 (And.intro R5 L5))
        clear hV X5 R5 L5 c20 c21 c22 c23 f2 f21 f22 f23
        go_wp2_with fail
        generalize hz : World.setCell _ _ _ = wz
        have RZ : Blk wz w.heap.size 42 #[.int .i64 op, .int .i64 0, .int .i64 0, .string ⟨#[]⟩] := by rw [← hz]; have h := (K5.out.2.1.set4 (.int .i64 op) (.int .i64 0) (.int .i64 0) (.string ⟨#[]⟩)); simpa using h
        have LZ : Below w.heap.size w wz := by rw [← hz]; exact (bel4 K5.out.2.2 (.int .i64 op) (.int .i64 0) (.int .i64 0) (.string ⟨#[]⟩))
        clear hz
        obtain ⟨qz0, qz1, qz2, qz3⟩ := RZ.k4
        refine bodyPost_ret (v := .tuple #[.agg #[.int .i64 op, .int .i64 0, .int .i64 0, .string ⟨#[]⟩], .bool false]) (by simp [results, Tryz.results25, go_sem, qz0, qz1, qz2, qz3]) rfl ?_
        exact ⟨op, 0, 0, ⟨#[]⟩, false, rfl, ok0 HWO.out, LZ, (fun h => by cases h), fun _ => by rw [RD.out, if_neg (by simp [HE.out])]⟩
      · rcases hi : intN rest with _ | n
        · have HI := zH hi
          clear hi
          have IN : Hid (∀ W, Below w.heap.size w W → Calls Tryz.prog 40 #[.string (txt rest)] W fun e w' => e = .returned (.tuple #[.int .i64 0, .int .i64 2]) ∧ Below W.heap.size W w') := zH (fun W hW => by have h := int_any (txt rest) (by rw [txt_size]; have := HRL.out; omega) W (HV.out.below hW); rw [bs_txt HRB.out, HI.out] at h; exact h)
          go_enter Tryz.func25, Tryz.ntmps25
          go_wp2_with (first
            | (go_at_call 24; refine CUTB.out.mono ?_; rintro e w2 ⟨rfl, B2, L2⟩; have s2 := B2.lt; obtain ⟨c20, c21, c22, c23⟩ := B2.k4; obtain ⟨f2, f21, f22, f23⟩ := B2.f4; have H2 := zH (And.intro B2 L2); clear B2 L2)
            | (go_at_call 39; refine (IDX.out _ H2.out.2).mono ?_; rintro e w3 ⟨rfl, rfl⟩)
            | (go_at_call 31; refine (WH.out _).mono ?_; rintro e w4 ⟨rfl, nq, rfl⟩)
            | (go_at_call 40; go_must (refine (IN.out _ (below_drewN (H2.out.2.alloc H2.out.2.size _) _)).mono ?_; rintro e w5 ⟨rfl, hb5⟩; have X5 : Blk w5 w3.heap.size 42 #[.int .i64 op, .int .i64 0, .int .i64 0, .string ⟨#[]⟩] := (Blk.drN ((Blk.new w3 42 #[.int .i64 op, .int .i64 0, .int .i64 0, .string ⟨#[]⟩])) _).below hb5 (by simp); have R5 : Blk w5 w.heap.size 42 #[.int .i64 0, .int .i64 0, .int .i64 0, .string ⟨#[]⟩] := (Blk.drN (H2.out.1.alloc _) _).below hb5 (by simp; omega); have L5 : Below w.heap.size w w5 := (below_drewN (H2.out.2.alloc H2.out.2.size _) _).trans (hb5.mono (by simp; omega)); obtain ⟨y0, y1, y2, y3⟩ := X5.k4; obtain ⟨yf0, yf1, yf2, yf3⟩ := X5.f4; obtain ⟨z0, z1, z2, z3⟩ := R5.k4; obtain ⟨zf0, zf1, zf2, zf3⟩ := R5.f4; have K5 := zH (And.intro X5 (And.intro R5 L5)); clear hb5 X5 R5 L5))
            | fail)
          generalize hz : World.setCell _ _ _ = wz
          have RZ : Blk wz w.heap.size 42 #[.int .i64 op, .int .i64 0, .int .i64 0, .string ⟨#[]⟩] := by rw [← hz]; have h := (K5.out.2.1.set4 (.int .i64 op) (.int .i64 0) (.int .i64 0) (.string ⟨#[]⟩)); simpa using h
          have LZ : Below w.heap.size w wz := by rw [← hz]; exact (bel4 K5.out.2.2 (.int .i64 op) (.int .i64 0) (.int .i64 0) (.string ⟨#[]⟩))
          clear hz
          obtain ⟨qz0, qz1, qz2, qz3⟩ := RZ.k4
          refine bodyPost_ret (v := .tuple #[.agg #[.int .i64 op, .int .i64 0, .int .i64 0, .string ⟨#[]⟩], .bool false]) (by simp [results, Tryz.results25, go_sem, qz0, qz1, qz2, qz3]) rfl ?_
          exact ⟨op, 0, 0, ⟨#[]⟩, false, rfl, ok0 HWO.out, LZ, (fun h => by cases h), fun _ => by rw [RD.out, if_pos ⟨H1.out, by simp [HE.out]⟩]; unfold putN; simp only [HE.out]; rw [HI.out]; rfl⟩
        · have hib := intN_some hi
          have HI := zH hi
          have HIB := zH (And.intro hib.1 hib.2.1)
          clear hi hib
          have IN : Hid (∀ W, Below w.heap.size w W → Calls Tryz.prog 40 #[.string (txt rest)] W fun e w' => e = .returned (.tuple #[.int .i64 n, .int .i64 0]) ∧ Below W.heap.size W w') := zH (fun W hW => by have h := int_any (txt rest) (by rw [txt_size]; have := HRL.out; omega) W (HV.out.below hW); rw [bs_txt HRB.out, HI.out] at h; exact h)
          go_enter Tryz.func25, Tryz.ntmps25
          go_wp2_with (first
            | (go_at_call 24; refine CUTB.out.mono ?_; rintro e w2 ⟨rfl, B2, L2⟩; have s2 := B2.lt; obtain ⟨c20, c21, c22, c23⟩ := B2.k4; obtain ⟨f2, f21, f22, f23⟩ := B2.f4; have H2 := zH (And.intro B2 L2); clear B2 L2)
            | (go_at_call 39; refine (IDX.out _ H2.out.2).mono ?_; rintro e w3 ⟨rfl, rfl⟩)
            | (go_at_call 31; refine (WH.out _).mono ?_; rintro e w4 ⟨rfl, nq, rfl⟩)
            | (go_at_call 40; go_must (refine (IN.out _ (below_drewN (H2.out.2.alloc H2.out.2.size _) _)).mono ?_; rintro e w5 ⟨rfl, hb5⟩; have X5 : Blk w5 w3.heap.size 42 #[.int .i64 op, .int .i64 0, .int .i64 0, .string ⟨#[]⟩] := (Blk.drN ((Blk.new w3 42 #[.int .i64 op, .int .i64 0, .int .i64 0, .string ⟨#[]⟩])) _).below hb5 (by simp); have R5 : Blk w5 w.heap.size 42 #[.int .i64 0, .int .i64 0, .int .i64 0, .string ⟨#[]⟩] := (Blk.drN (H2.out.1.alloc _) _).below hb5 (by simp; omega); have L5 : Below w.heap.size w w5 := (below_drewN (H2.out.2.alloc H2.out.2.size _) _).trans (hb5.mono (by simp; omega)); obtain ⟨y0, y1, y2, y3⟩ := X5.k4; obtain ⟨yf0, yf1, yf2, yf3⟩ := X5.f4; obtain ⟨z0, z1, z2, z3⟩ := R5.k4; obtain ⟨zf0, zf1, zf2, zf3⟩ := R5.f4; have K5 := zH (And.intro X5 (And.intro R5 L5)); clear hb5 X5 R5 L5))
            | fail)
          generalize hW : World.setCell _ _ _ = W9
          have X9 : Blk W9 w3.heap.size 42 #[.int .i64 op, .int .i64 n, .int .i64 0, .string ⟨#[]⟩] := by rw [← hW]; exact (by have h := ((K5.out.1.set_ 2 (.int .i64 n)).set_ 1 (.int .i64 n)).set_ 2 (.int .i64 0); simpa using h)
          have R9 : Blk W9 w.heap.size 42 #[.int .i64 0, .int .i64 0, .int .i64 0, .string ⟨#[]⟩] := by rw [← hW]; exact (((K5.out.2.1.far (p := ⟨w3.heap.size, 2, none⟩) (by show w.heap.size ≠ w3.heap.size; omega) (.int .i64 n)).far (p := ⟨w3.heap.size, 1, none⟩) (by show w.heap.size ≠ w3.heap.size; omega) (.int .i64 n)).far (p := ⟨w3.heap.size, 2, none⟩) (by show w.heap.size ≠ w3.heap.size; omega) (.int .i64 0))
          have L9 : Below w.heap.size w W9 := by rw [← hW]; exact (((K5.out.2.2.setCell (p := ⟨w3.heap.size, 2, none⟩) (by show w.heap.size ≤ w3.heap.size; omega) (.int .i64 n)).setCell (p := ⟨w3.heap.size, 1, none⟩) (by show w.heap.size ≤ w3.heap.size; omega) (.int .i64 n)).setCell (p := ⟨w3.heap.size, 2, none⟩) (by show w.heap.size ≤ w3.heap.size; omega) (.int .i64 0))
          obtain ⟨x0, x1, x2, x3⟩ := X9.k4
          obtain ⟨r0, r1, r2, r3⟩ := R9.k4
          obtain ⟨g0, g1, g2, g3⟩ := R9.f4
          have hok : Ins.ok ⟨op, n, 0, ⟨#[]⟩⟩ := ok_of HWO.out (wf_of HIB.out.1 HIB.out.2) (ok0 HWO.out).2.2.1 (ok0 HWO.out).2.2.2
          have HOK := zH hok
          have PL9 := zH (PL.out ⟨op, n, 0, ⟨#[]⟩⟩ hok)
          have K9 : Hid (Blk W9.drew w3.heap.size 42 #[.int .i64 op, .int .i64 n, .int .i64 0, .string ⟨#[]⟩] ∧ Blk W9.drew w.heap.size 42 #[.int .i64 0, .int .i64 0, .int .i64 0, .string ⟨#[]⟩] ∧ Below w.heap.size w W9.drew) := zH ⟨X9, R9, L9.drew⟩
          obtain ⟨pb, hpb⟩ : ∃ x, plainN ⟨op, n, 0, ⟨#[]⟩⟩ = x := ⟨_, rfl⟩
          rw [hpb] at PL9
          have RD9 : Hid (readN l = if pb = true then some ⟨op, n, 0, ⟨#[]⟩⟩ else none) := zH (by rw [RD.out, if_pos ⟨H1.out, by simp [HE.out]⟩]; unfold putN; simp only [HE.out]; rw [HI.out]; simp only [Option.map_some, Option.bind_some, hpb])
          clear hW X9 R9 L9 hok hpb c20 c21 c22 c23 f2 f21 f22 f23
          go_region_law (first
            | (go_simp; go_at_call 22
               go_must (refine (PL9.out _).mono ?_)
               rintro e w6 ⟨rfl, hb6⟩
               first
                 | (have R6 : Blk w6 w.heap.size 42 #[.int .i64 0, .int .i64 0, .int .i64 0, .string ⟨#[]⟩] := K9.out.2.1.below hb6 K9.out.2.1.lt
                    have L6 : Below w.heap.size w w6 := K9.out.2.2.trans (hb6.mono K9.out.2.2.size)
                    obtain ⟨q0, q1, q2, q3⟩ := R6.k4
                    have X6 : Blk w6 w3.heap.size 42 #[.int .i64 op, .int .i64 n, .int .i64 0, .string ⟨#[]⟩] := K9.out.1.below hb6 K9.out.1.lt
                    obtain ⟨u0, u1, u2, u3⟩ := X6.k4
                    obtain ⟨p0, p1, p2, p3⟩ := R6.f4
                    have HL6 := zH (And.intro R6 L6)
                    clear R6 L6 hb6 X6)
                 | (have R6 : Blk w6 w.heap.size 42 #[.int .i64 op, .int .i64 n, .int .i64 0, .string ⟨#[]⟩] := (Blk.turn (K9.out.2.1.set4 (.int .i64 op) (.int .i64 n) (.int .i64 0) (.string ⟨#[]⟩)) (cs' := #[.int .i64 op, .int .i64 n, .int .i64 0, .string ⟨#[]⟩]) rfl).below hb6 (by simpa using K9.out.2.1.lt)
                    have L6 : Below w.heap.size w w6 := (bel4 K9.out.2.2 (.int .i64 op) (.int .i64 n) (.int .i64 0) (.string ⟨#[]⟩)).trans (hb6.mono (by have := K9.out.2.2.size; simpa using this))
                    obtain ⟨q0, q1, q2, q3⟩ := R6.k4
                    have HL6 := zH (And.intro R6 L6)
                    clear R6 L6 hb6))
            | fail)
          all_goals
            go_wp2_with fail
            first
              | (have _t := p0
                 generalize hz : World.setCell _ _ _ = wz
                 have RZ : Blk wz w.heap.size 42 #[.int .i64 op, .int .i64 n, .int .i64 0, .string ⟨#[]⟩] := by rw [← hz]; have h := (HL6.out.1.set4 (.int .i64 op) (.int .i64 n) (.int .i64 0) (.string ⟨#[]⟩)); simpa using h
                 have LZ : Below w.heap.size w wz := by rw [← hz]; exact (bel4 HL6.out.2 (.int .i64 op) (.int .i64 n) (.int .i64 0) (.string ⟨#[]⟩))
                 clear hz
                 obtain ⟨qz0, qz1, qz2, qz3⟩ := RZ.k4
                 refine bodyPost_ret (v := .tuple #[.agg #[.int .i64 op, .int .i64 n, .int .i64 0, .string ⟨#[]⟩], .bool pb]) (by simp [results, Tryz.results25, go_sem, qz0, qz1, qz2, qz3]) rfl ?_
                 exact ⟨op, n, 0, ⟨#[]⟩, pb, rfl, HOK.out, LZ, fun h => by rw [RD9.out, if_pos h], fun h => by rw [RD9.out, h]; rfl⟩)
              | (have R6 := HL6.out.1
                 obtain ⟨qz0, qz1, qz2, qz3⟩ := R6.k4
                 refine bodyPost_ret (v := .tuple #[.agg #[.int .i64 op, .int .i64 n, .int .i64 0, .string ⟨#[]⟩], .bool pb]) (by simp [results, Tryz.results25, go_sem, qz0, qz1, qz2, qz3]) rfl ?_
                 exact ⟨op, n, 0, ⟨#[]⟩, pb, rfl, HOK.out, HL6.out.2, fun h => by rw [RD9.out, if_pos h], fun h => by rw [RD9.out, h]; rfl⟩)
    · rcases more with _ | _
      · go_enter Tryz.func25, Tryz.ntmps25
        go_upto_region 8 with (first
          | (go_at_call 24; refine CUTB.out.mono ?_; rintro e w2 ⟨rfl, B2, L2⟩; have s2 := B2.lt; obtain ⟨c20, c21, c22, c23⟩ := B2.k4; obtain ⟨f2, f21, f22, f23⟩ := B2.f4; have H2 := zH (And.intro B2 L2); clear B2 L2)
          | (go_at_call 39; refine (IDX.out _ H2.out.2).mono ?_; rintro e w3 ⟨rfl, rfl⟩)
          | (go_at_call 31; refine (WH.out _).mono ?_; rintro e w4 ⟨rfl, nq, rfl⟩)
          | fail)
        generalize hV : World.drewN _ _ = w5
        have X5 : Blk w5 w3.heap.size 42 #[.int .i64 op, .int .i64 0, .int .i64 0, .string ⟨#[]⟩] := by rw [← hV]; exact (Blk.drN (Blk.new w3 42 #[.int .i64 op, .int .i64 0, .int .i64 0, .string ⟨#[]⟩]) _)
        have R5 : Blk w5 w.heap.size 42 #[.int .i64 0, .int .i64 0, .int .i64 0, .string ⟨#[]⟩] := by rw [← hV]; exact (Blk.drN (H2.out.1.alloc _) _)
        have L5 : Below w.heap.size w w5 := by rw [← hV]; exact (below_drewN (H2.out.2.alloc H2.out.2.size _) _)
        have y0 : w5.cell? ⟨w3.heap.size, 0, none⟩ = some (.int .i64 op) := X5.cell rfl
        have yf0 := X5.frozen 0
        have z0 : w5.cell? ⟨w.heap.size, 0, none⟩ = some (.int .i64 0) := R5.cell rfl
        have zf0 := R5.frozen 0
        have y1 : w5.cell? ⟨w3.heap.size, 1, none⟩ = some (.int .i64 0) := X5.cell rfl
        have yf1 := X5.frozen 1
        have z1 : w5.cell? ⟨w.heap.size, 1, none⟩ = some (.int .i64 0) := R5.cell rfl
        have zf1 := R5.frozen 1
        have y2 : w5.cell? ⟨w3.heap.size, 2, none⟩ = some (.int .i64 0) := X5.cell rfl
        have yf2 := X5.frozen 2
        have z2 : w5.cell? ⟨w.heap.size, 2, none⟩ = some (.int .i64 0) := R5.cell rfl
        have zf2 := R5.frozen 2
        have y3 : w5.cell? ⟨w3.heap.size, 3, none⟩ = some (.string ⟨#[]⟩) := X5.cell rfl
        have yf3 := X5.frozen 3
        have z3 : w5.cell? ⟨w.heap.size, 3, none⟩ = some (.string ⟨#[]⟩) := R5.cell rfl
        have zf3 := R5.frozen 3
        have K5 := zH (And.intro X5 (And.intro R5 L5))
        clear hV X5 R5 L5 c20 c21 c22 c23 f2 f21 f22 f23
        go_wp2_with fail
        generalize hz : World.setCell _ _ _ = wz
        have RZ : Blk wz w.heap.size 42 #[.int .i64 op, .int .i64 0, .int .i64 0, .string ⟨#[]⟩] := by rw [← hz]; have h := (K5.out.2.1.set4 (.int .i64 op) (.int .i64 0) (.int .i64 0) (.string ⟨#[]⟩)); simpa using h
        have LZ : Below w.heap.size w wz := by rw [← hz]; exact (bel4 K5.out.2.2 (.int .i64 op) (.int .i64 0) (.int .i64 0) (.string ⟨#[]⟩))
        clear hz
        obtain ⟨qz0, qz1, qz2, qz3⟩ := RZ.k4
        refine bodyPost_ret (v := .tuple #[.agg #[.int .i64 op, .int .i64 0, .int .i64 0, .string ⟨#[]⟩], .bool false]) (by simp [results, Tryz.results25, go_sem, qz0, qz1, qz2, qz3]) rfl ?_
        exact ⟨op, 0, 0, ⟨#[]⟩, false, rfl, ok0 HWO.out, LZ, (fun h => by cases h), fun _ => by rw [RD.out, if_neg (by simp [HE.out])]⟩
      · rcases hi : intN rest with _ | n
        · have HI := zH hi
          clear hi
          have IN : Hid (∀ W, Below w.heap.size w W → Calls Tryz.prog 40 #[.string (txt rest)] W fun e w' => e = .returned (.tuple #[.int .i64 0, .int .i64 2]) ∧ Below W.heap.size W w') := zH (fun W hW => by have h := int_any (txt rest) (by rw [txt_size]; have := HRL.out; omega) W (HV.out.below hW); rw [bs_txt HRB.out, HI.out] at h; exact h)
          go_enter Tryz.func25, Tryz.ntmps25
          go_wp2_with (first
            | (go_at_call 24; refine CUTB.out.mono ?_; rintro e w2 ⟨rfl, B2, L2⟩; have s2 := B2.lt; obtain ⟨c20, c21, c22, c23⟩ := B2.k4; obtain ⟨f2, f21, f22, f23⟩ := B2.f4; have H2 := zH (And.intro B2 L2); clear B2 L2)
            | (go_at_call 39; refine (IDX.out _ H2.out.2).mono ?_; rintro e w3 ⟨rfl, rfl⟩)
            | (go_at_call 31; refine (WH.out _).mono ?_; rintro e w4 ⟨rfl, nq, rfl⟩)
            | (go_at_call 40; go_must (refine (IN.out _ (below_drewN (H2.out.2.alloc H2.out.2.size _) _)).mono ?_; rintro e w5 ⟨rfl, hb5⟩; have X5 : Blk w5 w3.heap.size 42 #[.int .i64 op, .int .i64 0, .int .i64 0, .string ⟨#[]⟩] := (Blk.drN ((Blk.new w3 42 #[.int .i64 op, .int .i64 0, .int .i64 0, .string ⟨#[]⟩])) _).below hb5 (by simp); have R5 : Blk w5 w.heap.size 42 #[.int .i64 0, .int .i64 0, .int .i64 0, .string ⟨#[]⟩] := (Blk.drN (H2.out.1.alloc _) _).below hb5 (by simp; omega); have L5 : Below w.heap.size w w5 := (below_drewN (H2.out.2.alloc H2.out.2.size _) _).trans (hb5.mono (by simp; omega)); obtain ⟨y0, y1, y2, y3⟩ := X5.k4; obtain ⟨yf0, yf1, yf2, yf3⟩ := X5.f4; obtain ⟨z0, z1, z2, z3⟩ := R5.k4; obtain ⟨zf0, zf1, zf2, zf3⟩ := R5.f4; have K5 := zH (And.intro X5 (And.intro R5 L5)); clear hb5 X5 R5 L5))
            | fail)
          generalize hz : World.setCell _ _ _ = wz
          have RZ : Blk wz w.heap.size 42 #[.int .i64 op, .int .i64 0, .int .i64 0, .string ⟨#[]⟩] := by rw [← hz]; have h := (K5.out.2.1.set4 (.int .i64 op) (.int .i64 0) (.int .i64 0) (.string ⟨#[]⟩)); simpa using h
          have LZ : Below w.heap.size w wz := by rw [← hz]; exact (bel4 K5.out.2.2 (.int .i64 op) (.int .i64 0) (.int .i64 0) (.string ⟨#[]⟩))
          clear hz
          obtain ⟨qz0, qz1, qz2, qz3⟩ := RZ.k4
          refine bodyPost_ret (v := .tuple #[.agg #[.int .i64 op, .int .i64 0, .int .i64 0, .string ⟨#[]⟩], .bool false]) (by simp [results, Tryz.results25, go_sem, qz0, qz1, qz2, qz3]) rfl ?_
          exact ⟨op, 0, 0, ⟨#[]⟩, false, rfl, ok0 HWO.out, LZ, (fun h => by cases h), fun _ => by rw [RD.out, if_pos ⟨H1.out, by simp [HE.out]⟩]; unfold putN; simp only [HE.out]; rw [HI.out]; rfl⟩
        · have hib := intN_some hi
          have HI := zH hi
          have HIB := zH (And.intro hib.1 hib.2.1)
          clear hi hib
          have IN : Hid (∀ W, Below w.heap.size w W → Calls Tryz.prog 40 #[.string (txt rest)] W fun e w' => e = .returned (.tuple #[.int .i64 n, .int .i64 0]) ∧ Below W.heap.size W w') := zH (fun W hW => by have h := int_any (txt rest) (by rw [txt_size]; have := HRL.out; omega) W (HV.out.below hW); rw [bs_txt HRB.out, HI.out] at h; exact h)
          go_enter Tryz.func25, Tryz.ntmps25
          go_wp2_with (first
            | (go_at_call 24; refine CUTB.out.mono ?_; rintro e w2 ⟨rfl, B2, L2⟩; have s2 := B2.lt; obtain ⟨c20, c21, c22, c23⟩ := B2.k4; obtain ⟨f2, f21, f22, f23⟩ := B2.f4; have H2 := zH (And.intro B2 L2); clear B2 L2)
            | (go_at_call 39; refine (IDX.out _ H2.out.2).mono ?_; rintro e w3 ⟨rfl, rfl⟩)
            | (go_at_call 31; refine (WH.out _).mono ?_; rintro e w4 ⟨rfl, nq, rfl⟩)
            | (go_at_call 40; go_must (refine (IN.out _ (below_drewN (H2.out.2.alloc H2.out.2.size _) _)).mono ?_; rintro e w5 ⟨rfl, hb5⟩; have X5 : Blk w5 w3.heap.size 42 #[.int .i64 op, .int .i64 0, .int .i64 0, .string ⟨#[]⟩] := (Blk.drN ((Blk.new w3 42 #[.int .i64 op, .int .i64 0, .int .i64 0, .string ⟨#[]⟩])) _).below hb5 (by simp); have R5 : Blk w5 w.heap.size 42 #[.int .i64 0, .int .i64 0, .int .i64 0, .string ⟨#[]⟩] := (Blk.drN (H2.out.1.alloc _) _).below hb5 (by simp; omega); have L5 : Below w.heap.size w w5 := (below_drewN (H2.out.2.alloc H2.out.2.size _) _).trans (hb5.mono (by simp; omega)); obtain ⟨y0, y1, y2, y3⟩ := X5.k4; obtain ⟨yf0, yf1, yf2, yf3⟩ := X5.f4; obtain ⟨z0, z1, z2, z3⟩ := R5.k4; obtain ⟨zf0, zf1, zf2, zf3⟩ := R5.f4; have K5 := zH (And.intro X5 (And.intro R5 L5)); clear hb5 X5 R5 L5))
            | fail)
          generalize hW : World.setCell _ _ _ = W9
          have X9 : Blk W9 w3.heap.size 42 #[.int .i64 op, .int .i64 0, .int .i64 n, .string ⟨#[]⟩] := by rw [← hW]; exact (by have h := K5.out.1.set_ 2 (.int .i64 n); simpa using h)
          have R9 : Blk W9 w.heap.size 42 #[.int .i64 0, .int .i64 0, .int .i64 0, .string ⟨#[]⟩] := by rw [← hW]; exact (K5.out.2.1.far (p := ⟨w3.heap.size, 2, none⟩) (by show w.heap.size ≠ w3.heap.size; omega) (.int .i64 n))
          have L9 : Below w.heap.size w W9 := by rw [← hW]; exact (K5.out.2.2.setCell (p := ⟨w3.heap.size, 2, none⟩) (by show w.heap.size ≤ w3.heap.size; omega) (.int .i64 n))
          obtain ⟨x0, x1, x2, x3⟩ := X9.k4
          obtain ⟨r0, r1, r2, r3⟩ := R9.k4
          obtain ⟨g0, g1, g2, g3⟩ := R9.f4
          have hok : Ins.ok ⟨op, 0, n, ⟨#[]⟩⟩ := ok_of HWO.out (ok0 HWO.out).2.1 (wf_of HIB.out.1 HIB.out.2) (ok0 HWO.out).2.2.2
          have HOK := zH hok
          have PL9 := zH (PL.out ⟨op, 0, n, ⟨#[]⟩⟩ hok)
          have K9 : Hid (Blk W9.drew w3.heap.size 42 #[.int .i64 op, .int .i64 0, .int .i64 n, .string ⟨#[]⟩] ∧ Blk W9.drew w.heap.size 42 #[.int .i64 0, .int .i64 0, .int .i64 0, .string ⟨#[]⟩] ∧ Below w.heap.size w W9.drew) := zH ⟨X9, R9, L9.drew⟩
          obtain ⟨pb, hpb⟩ : ∃ x, plainN ⟨op, 0, n, ⟨#[]⟩⟩ = x := ⟨_, rfl⟩
          rw [hpb] at PL9
          have RD9 : Hid (readN l = if pb = true then some ⟨op, 0, n, ⟨#[]⟩⟩ else none) := zH (by rw [RD.out, if_pos ⟨H1.out, by simp [HE.out]⟩]; unfold putN; simp only [HE.out]; rw [HI.out]; simp only [Option.map_some, Option.bind_some, hpb])
          clear hW X9 R9 L9 hok hpb c20 c21 c22 c23 f2 f21 f22 f23
          go_region_law (first
            | (go_simp; go_at_call 22
               go_must (refine (PL9.out _).mono ?_)
               rintro e w6 ⟨rfl, hb6⟩
               first
                 | (have R6 : Blk w6 w.heap.size 42 #[.int .i64 0, .int .i64 0, .int .i64 0, .string ⟨#[]⟩] := K9.out.2.1.below hb6 K9.out.2.1.lt
                    have L6 : Below w.heap.size w w6 := K9.out.2.2.trans (hb6.mono K9.out.2.2.size)
                    obtain ⟨q0, q1, q2, q3⟩ := R6.k4
                    have X6 : Blk w6 w3.heap.size 42 #[.int .i64 op, .int .i64 0, .int .i64 n, .string ⟨#[]⟩] := K9.out.1.below hb6 K9.out.1.lt
                    obtain ⟨u0, u1, u2, u3⟩ := X6.k4
                    obtain ⟨p0, p1, p2, p3⟩ := R6.f4
                    have HL6 := zH (And.intro R6 L6)
                    clear R6 L6 hb6 X6)
                 | (have R6 : Blk w6 w.heap.size 42 #[.int .i64 op, .int .i64 0, .int .i64 n, .string ⟨#[]⟩] := (Blk.turn (K9.out.2.1.set4 (.int .i64 op) (.int .i64 0) (.int .i64 n) (.string ⟨#[]⟩)) (cs' := #[.int .i64 op, .int .i64 0, .int .i64 n, .string ⟨#[]⟩]) rfl).below hb6 (by simpa using K9.out.2.1.lt)
                    have L6 : Below w.heap.size w w6 := (bel4 K9.out.2.2 (.int .i64 op) (.int .i64 0) (.int .i64 n) (.string ⟨#[]⟩)).trans (hb6.mono (by have := K9.out.2.2.size; simpa using this))
                    obtain ⟨q0, q1, q2, q3⟩ := R6.k4
                    have HL6 := zH (And.intro R6 L6)
                    clear R6 L6 hb6))
            | fail)
          all_goals
            go_wp2_with fail
            first
              | (have _t := p0
                 generalize hz : World.setCell _ _ _ = wz
                 have RZ : Blk wz w.heap.size 42 #[.int .i64 op, .int .i64 0, .int .i64 n, .string ⟨#[]⟩] := by rw [← hz]; have h := (HL6.out.1.set4 (.int .i64 op) (.int .i64 0) (.int .i64 n) (.string ⟨#[]⟩)); simpa using h
                 have LZ : Below w.heap.size w wz := by rw [← hz]; exact (bel4 HL6.out.2 (.int .i64 op) (.int .i64 0) (.int .i64 n) (.string ⟨#[]⟩))
                 clear hz
                 obtain ⟨qz0, qz1, qz2, qz3⟩ := RZ.k4
                 refine bodyPost_ret (v := .tuple #[.agg #[.int .i64 op, .int .i64 0, .int .i64 n, .string ⟨#[]⟩], .bool pb]) (by simp [results, Tryz.results25, go_sem, qz0, qz1, qz2, qz3]) rfl ?_
                 exact ⟨op, 0, n, ⟨#[]⟩, pb, rfl, HOK.out, LZ, fun h => by rw [RD9.out, if_pos h], fun h => by rw [RD9.out, h]; rfl⟩)
              | (have R6 := HL6.out.1
                 obtain ⟨qz0, qz1, qz2, qz3⟩ := R6.k4
                 refine bodyPost_ret (v := .tuple #[.agg #[.int .i64 op, .int .i64 0, .int .i64 n, .string ⟨#[]⟩], .bool pb]) (by simp [results, Tryz.results25, go_sem, qz0, qz1, qz2, qz3]) rfl ?_
                 exact ⟨op, 0, n, ⟨#[]⟩, pb, rfl, HOK.out, HL6.out.2, fun h => by rw [RD9.out, if_pos h], fun h => by rw [RD9.out, h]; rfl⟩)
    · rcases more with _ | _
      · go_enter Tryz.func25, Tryz.ntmps25
        go_upto_region 8 with (first
          | (go_at_call 24; refine CUTB.out.mono ?_; rintro e w2 ⟨rfl, B2, L2⟩; have s2 := B2.lt; obtain ⟨c20, c21, c22, c23⟩ := B2.k4; obtain ⟨f2, f21, f22, f23⟩ := B2.f4; have H2 := zH (And.intro B2 L2); clear B2 L2)
          | (go_at_call 39; refine (IDX.out _ H2.out.2).mono ?_; rintro e w3 ⟨rfl, rfl⟩)
          | (go_at_call 31; refine (WH.out _).mono ?_; rintro e w4 ⟨rfl, nq, rfl⟩)
          | fail)
        generalize hV : World.drewN _ _ = w5
        have X5 : Blk w5 w3.heap.size 42 #[.int .i64 op, .int .i64 0, .int .i64 0, .string ⟨#[]⟩] := by rw [← hV]; exact (Blk.drN (Blk.new w3 42 #[.int .i64 op, .int .i64 0, .int .i64 0, .string ⟨#[]⟩]) _)
        have R5 : Blk w5 w.heap.size 42 #[.int .i64 0, .int .i64 0, .int .i64 0, .string ⟨#[]⟩] := by rw [← hV]; exact (Blk.drN (H2.out.1.alloc _) _)
        have L5 : Below w.heap.size w w5 := by rw [← hV]; exact (below_drewN (H2.out.2.alloc H2.out.2.size _) _)
        have y0 : w5.cell? ⟨w3.heap.size, 0, none⟩ = some (.int .i64 op) := X5.cell rfl
        have yf0 := X5.frozen 0
        have z0 : w5.cell? ⟨w.heap.size, 0, none⟩ = some (.int .i64 0) := R5.cell rfl
        have zf0 := R5.frozen 0
        have y1 : w5.cell? ⟨w3.heap.size, 1, none⟩ = some (.int .i64 0) := X5.cell rfl
        have yf1 := X5.frozen 1
        have z1 : w5.cell? ⟨w.heap.size, 1, none⟩ = some (.int .i64 0) := R5.cell rfl
        have zf1 := R5.frozen 1
        have y2 : w5.cell? ⟨w3.heap.size, 2, none⟩ = some (.int .i64 0) := X5.cell rfl
        have yf2 := X5.frozen 2
        have z2 : w5.cell? ⟨w.heap.size, 2, none⟩ = some (.int .i64 0) := R5.cell rfl
        have zf2 := R5.frozen 2
        have y3 : w5.cell? ⟨w3.heap.size, 3, none⟩ = some (.string ⟨#[]⟩) := X5.cell rfl
        have yf3 := X5.frozen 3
        have z3 : w5.cell? ⟨w.heap.size, 3, none⟩ = some (.string ⟨#[]⟩) := R5.cell rfl
        have zf3 := R5.frozen 3
        have K5 := zH (And.intro X5 (And.intro R5 L5))
        clear hV X5 R5 L5 c20 c21 c22 c23 f2 f21 f22 f23
        go_wp2_with fail
        generalize hz : World.setCell _ _ _ = wz
        have RZ : Blk wz w.heap.size 42 #[.int .i64 op, .int .i64 0, .int .i64 0, .string ⟨#[]⟩] := by rw [← hz]; have h := (K5.out.2.1.set4 (.int .i64 op) (.int .i64 0) (.int .i64 0) (.string ⟨#[]⟩)); simpa using h
        have LZ : Below w.heap.size w wz := by rw [← hz]; exact (bel4 K5.out.2.2 (.int .i64 op) (.int .i64 0) (.int .i64 0) (.string ⟨#[]⟩))
        clear hz
        obtain ⟨qz0, qz1, qz2, qz3⟩ := RZ.k4
        refine bodyPost_ret (v := .tuple #[.agg #[.int .i64 op, .int .i64 0, .int .i64 0, .string ⟨#[]⟩], .bool false]) (by simp [results, Tryz.results25, go_sem, qz0, qz1, qz2, qz3]) rfl ?_
        exact ⟨op, 0, 0, ⟨#[]⟩, false, rfl, ok0 HWO.out, LZ, (fun h => by cases h), fun _ => by rw [RD.out, if_neg (by simp [HE.out])]⟩
      · rcases hu : unquoteN rest 0 with ⟨y, k, er⟩
        by_cases her : er = 0
        · subst her
          have hk := unquote_ok HRB.out hu
          have HU := zH hu
          have UN : Hid (∀ W, Below w.heap.size w W → Calls Tryz.prog 41 #[.string (txt rest), .int .i64 0] W fun e w' => e = .returned (.tuple #[.string (txt y), .int .i64 k, .int .i64 0]) ∧ Below W.heap.size W w') := zH (fun W _ => by have h := unquote_any (txt rest) 0 (by decide) (by rw [txt_size]; exact HRL.out) W; rw [bs_txt HRB.out, HU.out] at h; exact h)
          have h11 : (txt rest).size = rest.length := txt_size _
          by_cases hkl : k = (rest.length : Int)
          · subst hkl
            have hysz : y.length ≤ 1048576 := by obtain ⟨k', hk', _, hk2, ht, _⟩ := hk; have h1 := congrArg List.length ht; rw [List.length_take, quoteP_len] at h1; have h2 := flatP_ge y; have := HRL.out; omega
            have HY := zH hysz
            have hsz : ((txt rest).size : Int) = (rest.length : Int) := by rw [h11]
            clear hk hu h11
            go_enter Tryz.func25, Tryz.ntmps25
            go_wp2_with (first
              | (go_at_call 24; refine CUTB.out.mono ?_; rintro e w2 ⟨rfl, B2, L2⟩; have s2 := B2.lt; obtain ⟨c20, c21, c22, c23⟩ := B2.k4; obtain ⟨f2, f21, f22, f23⟩ := B2.f4; have H2 := zH (And.intro B2 L2); clear B2 L2)
              | (go_at_call 39; refine (IDX.out _ H2.out.2).mono ?_; rintro e w3 ⟨rfl, rfl⟩)
              | (go_at_call 31; refine (WH.out _).mono ?_; rintro e w4 ⟨rfl, nq, rfl⟩)
              | (go_at_call 41; go_must (refine (UN.out _ (below_drewN (H2.out.2.alloc H2.out.2.size _) _)).mono ?_; rintro e w5 ⟨rfl, hb5⟩; have X5 : Blk w5 w3.heap.size 42 #[.int .i64 op, .int .i64 0, .int .i64 0, .string ⟨#[]⟩] := (Blk.drN ((Blk.new w3 42 #[.int .i64 op, .int .i64 0, .int .i64 0, .string ⟨#[]⟩])) _).below hb5 (by simp); have R5 : Blk w5 w.heap.size 42 #[.int .i64 0, .int .i64 0, .int .i64 0, .string ⟨#[]⟩] := (Blk.drN (H2.out.1.alloc _) _).below hb5 (by simp; omega); have L5 : Below w.heap.size w w5 := (below_drewN (H2.out.2.alloc H2.out.2.size _) _).trans (hb5.mono (by simp; omega)); obtain ⟨y0, y1, y2, y3⟩ := X5.k4; obtain ⟨yf0, yf1, yf2, yf3⟩ := X5.f4; obtain ⟨z0, z1, z2, z3⟩ := R5.k4; obtain ⟨zf0, zf1, zf2, zf3⟩ := R5.f4; have K5 := zH (And.intro X5 (And.intro R5 L5)); clear hb5 X5 R5 L5))
              | fail)
            generalize hW : World.setCell _ _ _ = W9
            have X9 : Blk W9 w3.heap.size 42 #[.int .i64 op, .int .i64 0, .int .i64 0, .string (txt y)] := by rw [← hW]; exact (by have h := K5.out.1.set_ 3 (.string (txt y)); simpa using h)
            have R9 : Blk W9 w.heap.size 42 #[.int .i64 0, .int .i64 0, .int .i64 0, .string ⟨#[]⟩] := by rw [← hW]; exact (K5.out.2.1.far (p := ⟨w3.heap.size, 3, none⟩) (by show w.heap.size ≠ w3.heap.size; omega) (.string (txt y)))
            have L9 : Below w.heap.size w W9 := by rw [← hW]; exact (K5.out.2.2.setCell (p := ⟨w3.heap.size, 3, none⟩) (by show w.heap.size ≤ w3.heap.size; omega) (.string (txt y)))
            obtain ⟨x0, x1, x2, x3⟩ := X9.k4
            obtain ⟨r0, r1, r2, r3⟩ := R9.k4
            obtain ⟨g0, g1, g2, g3⟩ := R9.f4
            have hok : Ins.ok ⟨op, 0, 0, (txt y)⟩ := ok_of HWO.out (ok0 HWO.out).2.1 (ok0 HWO.out).2.2.1 (by rw [txt_size]; have := HY.out; unfold maxLen; omega)
            have HOK := zH hok
            have PL9 := zH (PL.out ⟨op, 0, 0, (txt y)⟩ hok)
            have K9 : Hid (Blk W9.drew w3.heap.size 42 #[.int .i64 op, .int .i64 0, .int .i64 0, .string (txt y)] ∧ Blk W9.drew w.heap.size 42 #[.int .i64 0, .int .i64 0, .int .i64 0, .string ⟨#[]⟩] ∧ Below w.heap.size w W9.drew) := zH ⟨X9, R9, L9.drew⟩
            obtain ⟨pb, hpb⟩ : ∃ x, plainN ⟨op, 0, 0, (txt y)⟩ = x := ⟨_, rfl⟩
            rw [hpb] at PL9
            have RD9 : Hid (readN l = if pb = true then some ⟨op, 0, 0, (txt y)⟩ else none) := zH (by rw [RD.out, if_pos ⟨H1.out, by simp [HE.out]⟩]; unfold putN; simp only [HE.out]; rw [HU.out]; simp only [and_self, if_true, Option.bind_some, hpb])
            clear hW X9 R9 L9 hok hpb c20 c21 c22 c23 f2 f21 f22 f23
            go_region_law (first
              | (go_simp; go_at_call 22
                 go_must (refine (PL9.out _).mono ?_)
                 rintro e w6 ⟨rfl, hb6⟩
                 first
                   | (have R6 : Blk w6 w.heap.size 42 #[.int .i64 0, .int .i64 0, .int .i64 0, .string ⟨#[]⟩] := K9.out.2.1.below hb6 K9.out.2.1.lt
                      have L6 : Below w.heap.size w w6 := K9.out.2.2.trans (hb6.mono K9.out.2.2.size)
                      obtain ⟨q0, q1, q2, q3⟩ := R6.k4
                      have X6 : Blk w6 w3.heap.size 42 #[.int .i64 op, .int .i64 0, .int .i64 0, .string (txt y)] := K9.out.1.below hb6 K9.out.1.lt
                      obtain ⟨u0, u1, u2, u3⟩ := X6.k4
                      obtain ⟨p0, p1, p2, p3⟩ := R6.f4
                      have HL6 := zH (And.intro R6 L6)
                      clear R6 L6 hb6 X6)
                   | (have R6 : Blk w6 w.heap.size 42 #[.int .i64 op, .int .i64 0, .int .i64 0, .string (txt y)] := (Blk.turn (K9.out.2.1.set4 (.int .i64 op) (.int .i64 0) (.int .i64 0) (.string (txt y))) (cs' := #[.int .i64 op, .int .i64 0, .int .i64 0, .string (txt y)]) rfl).below hb6 (by simpa using K9.out.2.1.lt)
                      have L6 : Below w.heap.size w w6 := (bel4 K9.out.2.2 (.int .i64 op) (.int .i64 0) (.int .i64 0) (.string (txt y))).trans (hb6.mono (by have := K9.out.2.2.size; simpa using this))
                      obtain ⟨q0, q1, q2, q3⟩ := R6.k4
                      have HL6 := zH (And.intro R6 L6)
                      clear R6 L6 hb6))
              | fail)
            all_goals
              go_wp2_with fail
              first
                | (have _t := p0
                   generalize hz : World.setCell _ _ _ = wz
                   have RZ : Blk wz w.heap.size 42 #[.int .i64 op, .int .i64 0, .int .i64 0, .string (txt y)] := by rw [← hz]; have h := (HL6.out.1.set4 (.int .i64 op) (.int .i64 0) (.int .i64 0) (.string (txt y))); simpa using h
                   have LZ : Below w.heap.size w wz := by rw [← hz]; exact (bel4 HL6.out.2 (.int .i64 op) (.int .i64 0) (.int .i64 0) (.string (txt y)))
                   clear hz
                   obtain ⟨qz0, qz1, qz2, qz3⟩ := RZ.k4
                   refine bodyPost_ret (v := .tuple #[.agg #[.int .i64 op, .int .i64 0, .int .i64 0, .string (txt y)], .bool pb]) (by simp [results, Tryz.results25, go_sem, qz0, qz1, qz2, qz3]) rfl ?_
                   exact ⟨op, 0, 0, (txt y), pb, rfl, HOK.out, LZ, fun h => by rw [RD9.out, if_pos h], fun h => by rw [RD9.out, h]; rfl⟩)
                | (have R6 := HL6.out.1
                   obtain ⟨qz0, qz1, qz2, qz3⟩ := R6.k4
                   refine bodyPost_ret (v := .tuple #[.agg #[.int .i64 op, .int .i64 0, .int .i64 0, .string (txt y)], .bool pb]) (by simp [results, Tryz.results25, go_sem, qz0, qz1, qz2, qz3]) rfl ?_
                   exact ⟨op, 0, 0, (txt y), pb, rfl, HOK.out, HL6.out.2, fun h => by rw [RD9.out, if_pos h], fun h => by rw [RD9.out, h]; rfl⟩)
          · have hsz : ((txt rest).size : Int) = (rest.length : Int) := by rw [h11]
            have hk1 : (k != (rest.length : Int)) = true := by simpa using hkl
            have HKL := zH hkl
            clear hk hu hkl h11
            go_enter Tryz.func25, Tryz.ntmps25
            go_wp2_with (first
              | (go_at_call 24; refine CUTB.out.mono ?_; rintro e w2 ⟨rfl, B2, L2⟩; have s2 := B2.lt; obtain ⟨c20, c21, c22, c23⟩ := B2.k4; obtain ⟨f2, f21, f22, f23⟩ := B2.f4; have H2 := zH (And.intro B2 L2); clear B2 L2)
              | (go_at_call 39; refine (IDX.out _ H2.out.2).mono ?_; rintro e w3 ⟨rfl, rfl⟩)
              | (go_at_call 31; refine (WH.out _).mono ?_; rintro e w4 ⟨rfl, nq, rfl⟩)
              | (go_at_call 41; go_must (refine (UN.out _ (below_drewN (H2.out.2.alloc H2.out.2.size _) _)).mono ?_; rintro e w5 ⟨rfl, hb5⟩; have X5 : Blk w5 w3.heap.size 42 #[.int .i64 op, .int .i64 0, .int .i64 0, .string ⟨#[]⟩] := (Blk.drN ((Blk.new w3 42 #[.int .i64 op, .int .i64 0, .int .i64 0, .string ⟨#[]⟩])) _).below hb5 (by simp); have R5 : Blk w5 w.heap.size 42 #[.int .i64 0, .int .i64 0, .int .i64 0, .string ⟨#[]⟩] := (Blk.drN (H2.out.1.alloc _) _).below hb5 (by simp; omega); have L5 : Below w.heap.size w w5 := (below_drewN (H2.out.2.alloc H2.out.2.size _) _).trans (hb5.mono (by simp; omega)); obtain ⟨y0, y1, y2, y3⟩ := X5.k4; obtain ⟨yf0, yf1, yf2, yf3⟩ := X5.f4; obtain ⟨z0, z1, z2, z3⟩ := R5.k4; obtain ⟨zf0, zf1, zf2, zf3⟩ := R5.f4; have K5 := zH (And.intro X5 (And.intro R5 L5)); clear hb5 X5 R5 L5))
              | fail)
            generalize hz : World.setCell _ _ _ = wz
            have RZ : Blk wz w.heap.size 42 #[.int .i64 op, .int .i64 0, .int .i64 0, .string ⟨#[]⟩] := by rw [← hz]; have h := (K5.out.2.1.set4 (.int .i64 op) (.int .i64 0) (.int .i64 0) (.string ⟨#[]⟩)); simpa using h
            have LZ : Below w.heap.size w wz := by rw [← hz]; exact (bel4 K5.out.2.2 (.int .i64 op) (.int .i64 0) (.int .i64 0) (.string ⟨#[]⟩))
            clear hz
            obtain ⟨qz0, qz1, qz2, qz3⟩ := RZ.k4
            refine bodyPost_ret (v := .tuple #[.agg #[.int .i64 op, .int .i64 0, .int .i64 0, .string ⟨#[]⟩], .bool false]) (by simp [results, Tryz.results25, go_sem, qz0, qz1, qz2, qz3]) rfl ?_
            exact ⟨op, 0, 0, ⟨#[]⟩, false, rfl, ok0 HWO.out, LZ, (fun h => by cases h), fun _ => by rw [RD.out, if_pos ⟨H1.out, by simp [HE.out]⟩]; unfold putN; simp only [HE.out]; rw [HU.out]; rw [if_neg (fun h => HKL.out h.2)]; rfl⟩
        · have HU := zH hu
          have UN : Hid (∀ W, Below w.heap.size w W → Calls Tryz.prog 41 #[.string (txt rest), .int .i64 0] W fun e w' => e = .returned (.tuple #[.string (txt y), .int .i64 k, .int .i64 (er : Int)]) ∧ Below W.heap.size W w') := zH (fun W _ => by have h := unquote_any (txt rest) 0 (by decide) (by rw [txt_size]; exact HRL.out) W; rw [bs_txt HRB.out, HU.out] at h; exact h)
          have h11 : (txt rest).size = rest.length := txt_size _
          have he1 : ((er : Int) != 0) = true := by simpa using her
          have HER := zH her
          clear her hu h11
          go_enter Tryz.func25, Tryz.ntmps25
          go_wp2_with (first
            | (go_at_call 24; refine CUTB.out.mono ?_; rintro e w2 ⟨rfl, B2, L2⟩; have s2 := B2.lt; obtain ⟨c20, c21, c22, c23⟩ := B2.k4; obtain ⟨f2, f21, f22, f23⟩ := B2.f4; have H2 := zH (And.intro B2 L2); clear B2 L2)
            | (go_at_call 39; refine (IDX.out _ H2.out.2).mono ?_; rintro e w3 ⟨rfl, rfl⟩)
            | (go_at_call 31; refine (WH.out _).mono ?_; rintro e w4 ⟨rfl, nq, rfl⟩)
            | (go_at_call 41; go_must (refine (UN.out _ (below_drewN (H2.out.2.alloc H2.out.2.size _) _)).mono ?_; rintro e w5 ⟨rfl, hb5⟩; have X5 : Blk w5 w3.heap.size 42 #[.int .i64 op, .int .i64 0, .int .i64 0, .string ⟨#[]⟩] := (Blk.drN ((Blk.new w3 42 #[.int .i64 op, .int .i64 0, .int .i64 0, .string ⟨#[]⟩])) _).below hb5 (by simp); have R5 : Blk w5 w.heap.size 42 #[.int .i64 0, .int .i64 0, .int .i64 0, .string ⟨#[]⟩] := (Blk.drN (H2.out.1.alloc _) _).below hb5 (by simp; omega); have L5 : Below w.heap.size w w5 := (below_drewN (H2.out.2.alloc H2.out.2.size _) _).trans (hb5.mono (by simp; omega)); obtain ⟨y0, y1, y2, y3⟩ := X5.k4; obtain ⟨yf0, yf1, yf2, yf3⟩ := X5.f4; obtain ⟨z0, z1, z2, z3⟩ := R5.k4; obtain ⟨zf0, zf1, zf2, zf3⟩ := R5.f4; have K5 := zH (And.intro X5 (And.intro R5 L5)); clear hb5 X5 R5 L5))
            | fail)
          generalize hz : World.setCell _ _ _ = wz
          have RZ : Blk wz w.heap.size 42 #[.int .i64 op, .int .i64 0, .int .i64 0, .string ⟨#[]⟩] := by rw [← hz]; have h := (K5.out.2.1.set4 (.int .i64 op) (.int .i64 0) (.int .i64 0) (.string ⟨#[]⟩)); simpa using h
          have LZ : Below w.heap.size w wz := by rw [← hz]; exact (bel4 K5.out.2.2 (.int .i64 op) (.int .i64 0) (.int .i64 0) (.string ⟨#[]⟩))
          clear hz
          obtain ⟨qz0, qz1, qz2, qz3⟩ := RZ.k4
          refine bodyPost_ret (v := .tuple #[.agg #[.int .i64 op, .int .i64 0, .int .i64 0, .string ⟨#[]⟩], .bool false]) (by simp [results, Tryz.results25, go_sem, qz0, qz1, qz2, qz3]) rfl ?_
          exact ⟨op, 0, 0, ⟨#[]⟩, false, rfl, ok0 HWO.out, LZ, (fun h => by cases h), fun _ => by rw [RD.out, if_pos ⟨H1.out, by simp [HE.out]⟩]; unfold putN; simp only [HE.out]; rw [HU.out]; rw [if_neg (fun h => HER.out h.1)]; rfl⟩
    · rcases more with _ | _
      · go_enter Tryz.func25, Tryz.ntmps25
        go_upto_region 8 with (first
          | (go_at_call 24; refine CUTB.out.mono ?_; rintro e w2 ⟨rfl, B2, L2⟩; have s2 := B2.lt; obtain ⟨c20, c21, c22, c23⟩ := B2.k4; obtain ⟨f2, f21, f22, f23⟩ := B2.f4; have H2 := zH (And.intro B2 L2); clear B2 L2)
          | (go_at_call 39; refine (IDX.out _ H2.out.2).mono ?_; rintro e w3 ⟨rfl, rfl⟩)
          | (go_at_call 31; refine (WH.out _).mono ?_; rintro e w4 ⟨rfl, nq, rfl⟩)
          | fail)
        generalize hV : World.drewN _ _ = w5
        have X5 : Blk w5 w3.heap.size 42 #[.int .i64 op, .int .i64 0, .int .i64 0, .string ⟨#[]⟩] := by rw [← hV]; exact (Blk.drN (Blk.new w3 42 #[.int .i64 op, .int .i64 0, .int .i64 0, .string ⟨#[]⟩]) _)
        have R5 : Blk w5 w.heap.size 42 #[.int .i64 0, .int .i64 0, .int .i64 0, .string ⟨#[]⟩] := by rw [← hV]; exact (Blk.drN (H2.out.1.alloc _) _)
        have L5 : Below w.heap.size w w5 := by rw [← hV]; exact (below_drewN (H2.out.2.alloc H2.out.2.size _) _)
        have y0 : w5.cell? ⟨w3.heap.size, 0, none⟩ = some (.int .i64 op) := X5.cell rfl
        have yf0 := X5.frozen 0
        have z0 : w5.cell? ⟨w.heap.size, 0, none⟩ = some (.int .i64 0) := R5.cell rfl
        have zf0 := R5.frozen 0
        have y1 : w5.cell? ⟨w3.heap.size, 1, none⟩ = some (.int .i64 0) := X5.cell rfl
        have yf1 := X5.frozen 1
        have z1 : w5.cell? ⟨w.heap.size, 1, none⟩ = some (.int .i64 0) := R5.cell rfl
        have zf1 := R5.frozen 1
        have y2 : w5.cell? ⟨w3.heap.size, 2, none⟩ = some (.int .i64 0) := X5.cell rfl
        have yf2 := X5.frozen 2
        have z2 : w5.cell? ⟨w.heap.size, 2, none⟩ = some (.int .i64 0) := R5.cell rfl
        have zf2 := R5.frozen 2
        have y3 : w5.cell? ⟨w3.heap.size, 3, none⟩ = some (.string ⟨#[]⟩) := X5.cell rfl
        have yf3 := X5.frozen 3
        have z3 : w5.cell? ⟨w.heap.size, 3, none⟩ = some (.string ⟨#[]⟩) := R5.cell rfl
        have zf3 := R5.frozen 3
        have K5 := zH (And.intro X5 (And.intro R5 L5))
        clear hV X5 R5 L5 c20 c21 c22 c23 f2 f21 f22 f23
        go_wp2_with fail
        generalize hz : World.setCell _ _ _ = wz
        have RZ : Blk wz w.heap.size 42 #[.int .i64 op, .int .i64 0, .int .i64 0, .string ⟨#[]⟩] := by rw [← hz]; have h := (K5.out.2.1.set4 (.int .i64 op) (.int .i64 0) (.int .i64 0) (.string ⟨#[]⟩)); simpa using h
        have LZ : Below w.heap.size w wz := by rw [← hz]; exact (bel4 K5.out.2.2 (.int .i64 op) (.int .i64 0) (.int .i64 0) (.string ⟨#[]⟩))
        clear hz
        obtain ⟨qz0, qz1, qz2, qz3⟩ := RZ.k4
        refine bodyPost_ret (v := .tuple #[.agg #[.int .i64 op, .int .i64 0, .int .i64 0, .string ⟨#[]⟩], .bool false]) (by simp [results, Tryz.results25, go_sem, qz0, qz1, qz2, qz3]) rfl ?_
        exact ⟨op, 0, 0, ⟨#[]⟩, false, rfl, ok0 HWO.out, LZ, (fun h => by cases h), fun _ => by rw [RD.out, if_neg (by simp [HE.out])]⟩
      · go_enter Tryz.func25, Tryz.ntmps25
        go_upto_region 25 with (first
          | (go_at_call 24; refine CUTB.out.mono ?_; rintro e w2 ⟨rfl, B2, L2⟩; have s2 := B2.lt; obtain ⟨c20, c21, c22, c23⟩ := B2.k4; obtain ⟨f2, f21, f22, f23⟩ := B2.f4; have H2 := zH (And.intro B2 L2); clear B2 L2)
          | (go_at_call 39; refine (IDX.out _ H2.out.2).mono ?_; rintro e w3 ⟨rfl, rfl⟩)
          | (go_at_call 31; refine (WH.out _).mono ?_; rintro e w4 ⟨rfl, nq, rfl⟩)
          | fail)
        generalize hV : World.drewN _ _ = w5
        have X5 : Blk w5 w3.heap.size 42 #[.int .i64 op, .int .i64 0, .int .i64 0, .string ⟨#[]⟩] := by rw [← hV]; exact (Blk.drN (Blk.new w3 42 #[.int .i64 op, .int .i64 0, .int .i64 0, .string ⟨#[]⟩]) _)
        have R5 : Blk w5 w.heap.size 42 #[.int .i64 0, .int .i64 0, .int .i64 0, .string ⟨#[]⟩] := by rw [← hV]; exact (Blk.drN (H2.out.1.alloc _) _)
        have L5 : Below w.heap.size w w5 := by rw [← hV]; exact (below_drewN (H2.out.2.alloc H2.out.2.size _) _)
        have y0 : w5.cell? ⟨w3.heap.size, 0, none⟩ = some (.int .i64 op) := X5.cell rfl
        have yf0 := X5.frozen 0
        have z0 : w5.cell? ⟨w.heap.size, 0, none⟩ = some (.int .i64 0) := R5.cell rfl
        have zf0 := R5.frozen 0
        have y1 : w5.cell? ⟨w3.heap.size, 1, none⟩ = some (.int .i64 0) := X5.cell rfl
        have yf1 := X5.frozen 1
        have z1 : w5.cell? ⟨w.heap.size, 1, none⟩ = some (.int .i64 0) := R5.cell rfl
        have zf1 := R5.frozen 1
        have y2 : w5.cell? ⟨w3.heap.size, 2, none⟩ = some (.int .i64 0) := X5.cell rfl
        have yf2 := X5.frozen 2
        have z2 : w5.cell? ⟨w.heap.size, 2, none⟩ = some (.int .i64 0) := R5.cell rfl
        have zf2 := R5.frozen 2
        have y3 : w5.cell? ⟨w3.heap.size, 3, none⟩ = some (.string ⟨#[]⟩) := X5.cell rfl
        have yf3 := X5.frozen 3
        have z3 : w5.cell? ⟨w.heap.size, 3, none⟩ = some (.string ⟨#[]⟩) := R5.cell rfl
        have zf3 := R5.frozen 3
        have K5 := zH (And.intro X5 (And.intro R5 L5))
        clear hV X5 R5 L5 c20 c21 c22 c23 f2 f21 f22 f23
        go_wp2_with fail
        generalize hW : World.setCell _ _ _ = W9
        have X9 : Blk W9 w3.heap.size 42 #[.int .i64 op, .int .i64 0, .int .i64 0, .string (txt rest)] := by rw [← hW]; exact (by have h := K5.out.1.set_ 3 (.string (txt rest)); simpa using h)
        have R9 : Blk W9 w.heap.size 42 #[.int .i64 0, .int .i64 0, .int .i64 0, .string ⟨#[]⟩] := by rw [← hW]; exact (K5.out.2.1.far (p := ⟨w3.heap.size, 3, none⟩) (by show w.heap.size ≠ w3.heap.size; omega) (.string (txt rest)))
        have L9 : Below w.heap.size w W9 := by rw [← hW]; exact (K5.out.2.2.setCell (p := ⟨w3.heap.size, 3, none⟩) (by show w.heap.size ≤ w3.heap.size; omega) (.string (txt rest)))
        obtain ⟨x0, x1, x2, x3⟩ := X9.k4
        obtain ⟨r0, r1, r2, r3⟩ := R9.k4
        obtain ⟨g0, g1, g2, g3⟩ := R9.f4
        have hok : Ins.ok ⟨op, 0, 0, (txt rest)⟩ := ok_of HWO.out (ok0 HWO.out).2.1 (ok0 HWO.out).2.2.1 (by rw [txt_size]; have := HRL.out; unfold maxLen; omega)
        have HOK := zH hok
        have PL9 := zH (PL.out ⟨op, 0, 0, (txt rest)⟩ hok)
        have K9 : Hid (Blk W9.drew w3.heap.size 42 #[.int .i64 op, .int .i64 0, .int .i64 0, .string (txt rest)] ∧ Blk W9.drew w.heap.size 42 #[.int .i64 0, .int .i64 0, .int .i64 0, .string ⟨#[]⟩] ∧ Below w.heap.size w W9.drew) := zH ⟨X9, R9, L9.drew⟩
        obtain ⟨pb, hpb⟩ : ∃ x, plainN ⟨op, 0, 0, (txt rest)⟩ = x := ⟨_, rfl⟩
        rw [hpb] at PL9
        have RD9 : Hid (readN l = if pb = true then some ⟨op, 0, 0, (txt rest)⟩ else none) := zH (by rw [RD.out, if_pos ⟨H1.out, by simp [HE.out]⟩]; unfold putN; simp only [HE.out]; simp only [Option.bind_some, hpb])
        clear hW X9 R9 L9 hok hpb
        go_region_law (first
          | (go_simp; go_at_call 22
             go_must (refine (PL9.out _).mono ?_)
             rintro e w6 ⟨rfl, hb6⟩
             first
               | (have R6 : Blk w6 w.heap.size 42 #[.int .i64 0, .int .i64 0, .int .i64 0, .string ⟨#[]⟩] := K9.out.2.1.below hb6 K9.out.2.1.lt
                  have L6 : Below w.heap.size w w6 := K9.out.2.2.trans (hb6.mono K9.out.2.2.size)
                  obtain ⟨q0, q1, q2, q3⟩ := R6.k4
                  have X6 : Blk w6 w3.heap.size 42 #[.int .i64 op, .int .i64 0, .int .i64 0, .string (txt rest)] := K9.out.1.below hb6 K9.out.1.lt
                  obtain ⟨u0, u1, u2, u3⟩ := X6.k4
                  obtain ⟨p0, p1, p2, p3⟩ := R6.f4
                  have HL6 := zH (And.intro R6 L6)
                  clear R6 L6 hb6 X6)
               | (have R6 : Blk w6 w.heap.size 42 #[.int .i64 op, .int .i64 0, .int .i64 0, .string (txt rest)] := (Blk.turn (K9.out.2.1.set4 (.int .i64 op) (.int .i64 0) (.int .i64 0) (.string (txt rest))) (cs' := #[.int .i64 op, .int .i64 0, .int .i64 0, .string (txt rest)]) rfl).below hb6 (by simpa using K9.out.2.1.lt)
                  have L6 : Below w.heap.size w w6 := (bel4 K9.out.2.2 (.int .i64 op) (.int .i64 0) (.int .i64 0) (.string (txt rest))).trans (hb6.mono (by have := K9.out.2.2.size; simpa using this))
                  obtain ⟨q0, q1, q2, q3⟩ := R6.k4
                  have HL6 := zH (And.intro R6 L6)
                  clear R6 L6 hb6))
          | fail)
        all_goals
          go_wp2_with fail
          first
            | (have _t := p0
               generalize hz : World.setCell _ _ _ = wz
               have RZ : Blk wz w.heap.size 42 #[.int .i64 op, .int .i64 0, .int .i64 0, .string (txt rest)] := by rw [← hz]; have h := (HL6.out.1.set4 (.int .i64 op) (.int .i64 0) (.int .i64 0) (.string (txt rest))); simpa using h
               have LZ : Below w.heap.size w wz := by rw [← hz]; exact (bel4 HL6.out.2 (.int .i64 op) (.int .i64 0) (.int .i64 0) (.string (txt rest)))
               clear hz
               obtain ⟨qz0, qz1, qz2, qz3⟩ := RZ.k4
               refine bodyPost_ret (v := .tuple #[.agg #[.int .i64 op, .int .i64 0, .int .i64 0, .string (txt rest)], .bool pb]) (by simp [results, Tryz.results25, go_sem, qz0, qz1, qz2, qz3]) rfl ?_
               exact ⟨op, 0, 0, (txt rest), pb, rfl, HOK.out, LZ, fun h => by rw [RD9.out, if_pos h], fun h => by rw [RD9.out, h]; rfl⟩)
            | (have R6 := HL6.out.1
               obtain ⟨qz0, qz1, qz2, qz3⟩ := R6.k4
               refine bodyPost_ret (v := .tuple #[.agg #[.int .i64 op, .int .i64 0, .int .i64 0, .string (txt rest)], .bool pb]) (by simp [results, Tryz.results25, go_sem, qz0, qz1, qz2, qz3]) rfl ?_
               exact ⟨op, 0, 0, (txt rest), pb, rfl, HOK.out, HL6.out.2, fun h => by rw [RD9.out, if_pos h], fun h => by rw [RD9.out, h]; rfl⟩)
    · rcases more with _ | _
      · go_enter Tryz.func25, Tryz.ntmps25
        go_upto_region 8 with (first
          | (go_at_call 24; refine CUTB.out.mono ?_; rintro e w2 ⟨rfl, B2, L2⟩; have s2 := B2.lt; obtain ⟨c20, c21, c22, c23⟩ := B2.k4; obtain ⟨f2, f21, f22, f23⟩ := B2.f4; have H2 := zH (And.intro B2 L2); clear B2 L2)
          | (go_at_call 39; refine (IDX.out _ H2.out.2).mono ?_; rintro e w3 ⟨rfl, rfl⟩)
          | (go_at_call 31; refine (WH.out _).mono ?_; rintro e w4 ⟨rfl, nq, rfl⟩)
          | fail)
        generalize hV : World.drewN _ _ = w5
        have X5 : Blk w5 w3.heap.size 42 #[.int .i64 op, .int .i64 0, .int .i64 0, .string ⟨#[]⟩] := by rw [← hV]; exact (Blk.drN (Blk.new w3 42 #[.int .i64 op, .int .i64 0, .int .i64 0, .string ⟨#[]⟩]) _)
        have R5 : Blk w5 w.heap.size 42 #[.int .i64 0, .int .i64 0, .int .i64 0, .string ⟨#[]⟩] := by rw [← hV]; exact (Blk.drN (H2.out.1.alloc _) _)
        have L5 : Below w.heap.size w w5 := by rw [← hV]; exact (below_drewN (H2.out.2.alloc H2.out.2.size _) _)
        have y0 : w5.cell? ⟨w3.heap.size, 0, none⟩ = some (.int .i64 op) := X5.cell rfl
        have yf0 := X5.frozen 0
        have z0 : w5.cell? ⟨w.heap.size, 0, none⟩ = some (.int .i64 0) := R5.cell rfl
        have zf0 := R5.frozen 0
        have y1 : w5.cell? ⟨w3.heap.size, 1, none⟩ = some (.int .i64 0) := X5.cell rfl
        have yf1 := X5.frozen 1
        have z1 : w5.cell? ⟨w.heap.size, 1, none⟩ = some (.int .i64 0) := R5.cell rfl
        have zf1 := R5.frozen 1
        have y2 : w5.cell? ⟨w3.heap.size, 2, none⟩ = some (.int .i64 0) := X5.cell rfl
        have yf2 := X5.frozen 2
        have z2 : w5.cell? ⟨w.heap.size, 2, none⟩ = some (.int .i64 0) := R5.cell rfl
        have zf2 := R5.frozen 2
        have y3 : w5.cell? ⟨w3.heap.size, 3, none⟩ = some (.string ⟨#[]⟩) := X5.cell rfl
        have yf3 := X5.frozen 3
        have z3 : w5.cell? ⟨w.heap.size, 3, none⟩ = some (.string ⟨#[]⟩) := R5.cell rfl
        have zf3 := R5.frozen 3
        have K5 := zH (And.intro X5 (And.intro R5 L5))
        clear hV X5 R5 L5 c20 c21 c22 c23 f2 f21 f22 f23
        go_wp2_with fail
        generalize hz : World.setCell _ _ _ = wz
        have RZ : Blk wz w.heap.size 42 #[.int .i64 op, .int .i64 0, .int .i64 0, .string ⟨#[]⟩] := by rw [← hz]; have h := (K5.out.2.1.set4 (.int .i64 op) (.int .i64 0) (.int .i64 0) (.string ⟨#[]⟩)); simpa using h
        have LZ : Below w.heap.size w wz := by rw [← hz]; exact (bel4 K5.out.2.2 (.int .i64 op) (.int .i64 0) (.int .i64 0) (.string ⟨#[]⟩))
        clear hz
        obtain ⟨qz0, qz1, qz2, qz3⟩ := RZ.k4
        refine bodyPost_ret (v := .tuple #[.agg #[.int .i64 op, .int .i64 0, .int .i64 0, .string ⟨#[]⟩], .bool false]) (by simp [results, Tryz.results25, go_sem, qz0, qz1, qz2, qz3]) rfl ?_
        exact ⟨op, 0, 0, ⟨#[]⟩, false, rfl, ok0 HWO.out, LZ, (fun h => by cases h), fun _ => by rw [RD.out, if_neg (by simp [HE.out])]⟩
      · rcases hi : intN rest with _ | n
        · have HI := zH hi
          clear hi
          have IN : Hid (∀ W, Below w.heap.size w W → Calls Tryz.prog 40 #[.string (txt rest)] W fun e w' => e = .returned (.tuple #[.int .i64 0, .int .i64 2]) ∧ Below W.heap.size W w') := zH (fun W hW => by have h := int_any (txt rest) (by rw [txt_size]; have := HRL.out; omega) W (HV.out.below hW); rw [bs_txt HRB.out, HI.out] at h; exact h)
          go_enter Tryz.func25, Tryz.ntmps25
          go_wp2_with (first
            | (go_at_call 24; refine CUTB.out.mono ?_; rintro e w2 ⟨rfl, B2, L2⟩; have s2 := B2.lt; obtain ⟨c20, c21, c22, c23⟩ := B2.k4; obtain ⟨f2, f21, f22, f23⟩ := B2.f4; have H2 := zH (And.intro B2 L2); clear B2 L2)
            | (go_at_call 39; refine (IDX.out _ H2.out.2).mono ?_; rintro e w3 ⟨rfl, rfl⟩)
            | (go_at_call 31; refine (WH.out _).mono ?_; rintro e w4 ⟨rfl, nq, rfl⟩)
            | (go_at_call 40; go_must (refine (IN.out _ (below_drewN (H2.out.2.alloc H2.out.2.size _) _)).mono ?_; rintro e w5 ⟨rfl, hb5⟩; have X5 : Blk w5 w3.heap.size 42 #[.int .i64 op, .int .i64 0, .int .i64 0, .string ⟨#[]⟩] := (Blk.drN ((Blk.new w3 42 #[.int .i64 op, .int .i64 0, .int .i64 0, .string ⟨#[]⟩])) _).below hb5 (by simp); have R5 : Blk w5 w.heap.size 42 #[.int .i64 0, .int .i64 0, .int .i64 0, .string ⟨#[]⟩] := (Blk.drN (H2.out.1.alloc _) _).below hb5 (by simp; omega); have L5 : Below w.heap.size w w5 := (below_drewN (H2.out.2.alloc H2.out.2.size _) _).trans (hb5.mono (by simp; omega)); obtain ⟨y0, y1, y2, y3⟩ := X5.k4; obtain ⟨yf0, yf1, yf2, yf3⟩ := X5.f4; obtain ⟨z0, z1, z2, z3⟩ := R5.k4; obtain ⟨zf0, zf1, zf2, zf3⟩ := R5.f4; have K5 := zH (And.intro X5 (And.intro R5 L5)); clear hb5 X5 R5 L5))
            | fail)
          generalize hz : World.setCell _ _ _ = wz
          have RZ : Blk wz w.heap.size 42 #[.int .i64 op, .int .i64 0, .int .i64 0, .string ⟨#[]⟩] := by rw [← hz]; have h := (K5.out.2.1.set4 (.int .i64 op) (.int .i64 0) (.int .i64 0) (.string ⟨#[]⟩)); simpa using h
          have LZ : Below w.heap.size w wz := by rw [← hz]; exact (bel4 K5.out.2.2 (.int .i64 op) (.int .i64 0) (.int .i64 0) (.string ⟨#[]⟩))
          clear hz
          obtain ⟨qz0, qz1, qz2, qz3⟩ := RZ.k4
          refine bodyPost_ret (v := .tuple #[.agg #[.int .i64 op, .int .i64 0, .int .i64 0, .string ⟨#[]⟩], .bool false]) (by simp [results, Tryz.results25, go_sem, qz0, qz1, qz2, qz3]) rfl ?_
          exact ⟨op, 0, 0, ⟨#[]⟩, false, rfl, ok0 HWO.out, LZ, (fun h => by cases h), fun _ => by rw [RD.out, if_pos ⟨H1.out, by simp [HE.out]⟩]; unfold putN; simp only [HE.out]; rw [HI.out]; rfl⟩
        · have hib := intN_some hi
          have HI := zH hi
          have HIB := zH (And.intro hib.1 hib.2.1)
          clear hi hib
          have IN : Hid (∀ W, Below w.heap.size w W → Calls Tryz.prog 40 #[.string (txt rest)] W fun e w' => e = .returned (.tuple #[.int .i64 n, .int .i64 0]) ∧ Below W.heap.size W w') := zH (fun W hW => by have h := int_any (txt rest) (by rw [txt_size]; have := HRL.out; omega) W (HV.out.below hW); rw [bs_txt HRB.out, HI.out] at h; exact h)
          go_enter Tryz.func25, Tryz.ntmps25
          go_wp2_with (first
            | (go_at_call 24; refine CUTB.out.mono ?_; rintro e w2 ⟨rfl, B2, L2⟩; have s2 := B2.lt; obtain ⟨c20, c21, c22, c23⟩ := B2.k4; obtain ⟨f2, f21, f22, f23⟩ := B2.f4; have H2 := zH (And.intro B2 L2); clear B2 L2)
            | (go_at_call 39; refine (IDX.out _ H2.out.2).mono ?_; rintro e w3 ⟨rfl, rfl⟩)
            | (go_at_call 31; refine (WH.out _).mono ?_; rintro e w4 ⟨rfl, nq, rfl⟩)
            | (go_at_call 40; go_must (refine (IN.out _ (below_drewN (H2.out.2.alloc H2.out.2.size _) _)).mono ?_; rintro e w5 ⟨rfl, hb5⟩; have X5 : Blk w5 w3.heap.size 42 #[.int .i64 op, .int .i64 0, .int .i64 0, .string ⟨#[]⟩] := (Blk.drN ((Blk.new w3 42 #[.int .i64 op, .int .i64 0, .int .i64 0, .string ⟨#[]⟩])) _).below hb5 (by simp); have R5 : Blk w5 w.heap.size 42 #[.int .i64 0, .int .i64 0, .int .i64 0, .string ⟨#[]⟩] := (Blk.drN (H2.out.1.alloc _) _).below hb5 (by simp; omega); have L5 : Below w.heap.size w w5 := (below_drewN (H2.out.2.alloc H2.out.2.size _) _).trans (hb5.mono (by simp; omega)); obtain ⟨y0, y1, y2, y3⟩ := X5.k4; obtain ⟨yf0, yf1, yf2, yf3⟩ := X5.f4; obtain ⟨z0, z1, z2, z3⟩ := R5.k4; obtain ⟨zf0, zf1, zf2, zf3⟩ := R5.f4; have K5 := zH (And.intro X5 (And.intro R5 L5)); clear hb5 X5 R5 L5))
            | fail)
          generalize hW : World.setCell _ _ _ = W9
          have X9 : Blk W9 w3.heap.size 42 #[.int .i64 op, .int .i64 n, .int .i64 0, .string ⟨#[]⟩] := by rw [← hW]; exact (by have h := ((K5.out.1.set_ 2 (.int .i64 n)).set_ 1 (.int .i64 n)).set_ 2 (.int .i64 0); simpa using h)
          have R9 : Blk W9 w.heap.size 42 #[.int .i64 0, .int .i64 0, .int .i64 0, .string ⟨#[]⟩] := by rw [← hW]; exact (((K5.out.2.1.far (p := ⟨w3.heap.size, 2, none⟩) (by show w.heap.size ≠ w3.heap.size; omega) (.int .i64 n)).far (p := ⟨w3.heap.size, 1, none⟩) (by show w.heap.size ≠ w3.heap.size; omega) (.int .i64 n)).far (p := ⟨w3.heap.size, 2, none⟩) (by show w.heap.size ≠ w3.heap.size; omega) (.int .i64 0))
          have L9 : Below w.heap.size w W9 := by rw [← hW]; exact (((K5.out.2.2.setCell (p := ⟨w3.heap.size, 2, none⟩) (by show w.heap.size ≤ w3.heap.size; omega) (.int .i64 n)).setCell (p := ⟨w3.heap.size, 1, none⟩) (by show w.heap.size ≤ w3.heap.size; omega) (.int .i64 n)).setCell (p := ⟨w3.heap.size, 2, none⟩) (by show w.heap.size ≤ w3.heap.size; omega) (.int .i64 0))
          obtain ⟨x0, x1, x2, x3⟩ := X9.k4
          obtain ⟨r0, r1, r2, r3⟩ := R9.k4
          obtain ⟨g0, g1, g2, g3⟩ := R9.f4
          have hok : Ins.ok ⟨op, n, 0, ⟨#[]⟩⟩ := ok_of HWO.out (wf_of HIB.out.1 HIB.out.2) (ok0 HWO.out).2.2.1 (ok0 HWO.out).2.2.2
          have HOK := zH hok
          have PL9 := zH (PL.out ⟨op, n, 0, ⟨#[]⟩⟩ hok)
          have K9 : Hid (Blk W9.drew w3.heap.size 42 #[.int .i64 op, .int .i64 n, .int .i64 0, .string ⟨#[]⟩] ∧ Blk W9.drew w.heap.size 42 #[.int .i64 0, .int .i64 0, .int .i64 0, .string ⟨#[]⟩] ∧ Below w.heap.size w W9.drew) := zH ⟨X9, R9, L9.drew⟩
          obtain ⟨pb, hpb⟩ : ∃ x, plainN ⟨op, n, 0, ⟨#[]⟩⟩ = x := ⟨_, rfl⟩
          rw [hpb] at PL9
          have RD9 : Hid (readN l = if pb = true then some ⟨op, n, 0, ⟨#[]⟩⟩ else none) := zH (by rw [RD.out, if_pos ⟨H1.out, by simp [HE.out]⟩]; unfold putN; simp only [HE.out]; rw [HI.out]; simp only [Option.map_some, Option.bind_some, hpb])
          clear hW X9 R9 L9 hok hpb c20 c21 c22 c23 f2 f21 f22 f23
          go_region_law (first
            | (go_simp; go_at_call 22
               go_must (refine (PL9.out _).mono ?_)
               rintro e w6 ⟨rfl, hb6⟩
               first
                 | (have R6 : Blk w6 w.heap.size 42 #[.int .i64 0, .int .i64 0, .int .i64 0, .string ⟨#[]⟩] := K9.out.2.1.below hb6 K9.out.2.1.lt
                    have L6 : Below w.heap.size w w6 := K9.out.2.2.trans (hb6.mono K9.out.2.2.size)
                    obtain ⟨q0, q1, q2, q3⟩ := R6.k4
                    have X6 : Blk w6 w3.heap.size 42 #[.int .i64 op, .int .i64 n, .int .i64 0, .string ⟨#[]⟩] := K9.out.1.below hb6 K9.out.1.lt
                    obtain ⟨u0, u1, u2, u3⟩ := X6.k4
                    obtain ⟨p0, p1, p2, p3⟩ := R6.f4
                    have HL6 := zH (And.intro R6 L6)
                    clear R6 L6 hb6 X6)
                 | (have R6 : Blk w6 w.heap.size 42 #[.int .i64 op, .int .i64 n, .int .i64 0, .string ⟨#[]⟩] := (Blk.turn (K9.out.2.1.set4 (.int .i64 op) (.int .i64 n) (.int .i64 0) (.string ⟨#[]⟩)) (cs' := #[.int .i64 op, .int .i64 n, .int .i64 0, .string ⟨#[]⟩]) rfl).below hb6 (by simpa using K9.out.2.1.lt)
                    have L6 : Below w.heap.size w w6 := (bel4 K9.out.2.2 (.int .i64 op) (.int .i64 n) (.int .i64 0) (.string ⟨#[]⟩)).trans (hb6.mono (by have := K9.out.2.2.size; simpa using this))
                    obtain ⟨q0, q1, q2, q3⟩ := R6.k4
                    have HL6 := zH (And.intro R6 L6)
                    clear R6 L6 hb6))
            | fail)
          all_goals
            go_wp2_with fail
            first
              | (have _t := p0
                 generalize hz : World.setCell _ _ _ = wz
                 have RZ : Blk wz w.heap.size 42 #[.int .i64 op, .int .i64 n, .int .i64 0, .string ⟨#[]⟩] := by rw [← hz]; have h := (HL6.out.1.set4 (.int .i64 op) (.int .i64 n) (.int .i64 0) (.string ⟨#[]⟩)); simpa using h
                 have LZ : Below w.heap.size w wz := by rw [← hz]; exact (bel4 HL6.out.2 (.int .i64 op) (.int .i64 n) (.int .i64 0) (.string ⟨#[]⟩))
                 clear hz
                 obtain ⟨qz0, qz1, qz2, qz3⟩ := RZ.k4
                 refine bodyPost_ret (v := .tuple #[.agg #[.int .i64 op, .int .i64 n, .int .i64 0, .string ⟨#[]⟩], .bool pb]) (by simp [results, Tryz.results25, go_sem, qz0, qz1, qz2, qz3]) rfl ?_
                 exact ⟨op, n, 0, ⟨#[]⟩, pb, rfl, HOK.out, LZ, fun h => by rw [RD9.out, if_pos h], fun h => by rw [RD9.out, h]; rfl⟩)
              | (have R6 := HL6.out.1
                 obtain ⟨qz0, qz1, qz2, qz3⟩ := R6.k4
                 refine bodyPost_ret (v := .tuple #[.agg #[.int .i64 op, .int .i64 n, .int .i64 0, .string ⟨#[]⟩], .bool pb]) (by simp [results, Tryz.results25, go_sem, qz0, qz1, qz2, qz3]) rfl ?_
                 exact ⟨op, n, 0, ⟨#[]⟩, pb, rfl, HOK.out, HL6.out.2, fun h => by rw [RD9.out, if_pos h], fun h => by rw [RD9.out, h]; rfl⟩)
end Go.Proofs.YtdkoafmgenbkbaaGreatDoor
