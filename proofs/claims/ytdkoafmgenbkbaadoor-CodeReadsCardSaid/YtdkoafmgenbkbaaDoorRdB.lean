/- Chapter 11: a text of code, as the program reads it. -/
import Derived.Test.YtdkoafmgenbkbaaDoorRdA
import Derived.Test.YtdkoafmgenbkbaaDoorCdE
import Derived.Test.YtdkoafmgenbkbaaDoorMRc
namespace Go.Proofs.YtdkoafmgenbkbaaDoor
set_option linter.unusedSimpArgs false
set_option linter.unusedVariables false
open Go.RowKit

def strLen : Value → Nat
  | .string s => s.size
  | _ => 0
/-- what Parse answers -/
def ParseK (w : World) (l : List Nat) (e : Ending) (w' : World) : Prop :=
  ∃ v : Value, e = .returned (.tuple #[.agg #[v], .int .i64 ((parseC l).2.1 : Int), .int .i64 ((parseC l).2.2 : Int)]) ∧ Own1 w' w.heap.size 46 4 Ins.Is v (parseC l).1 ∧ Below w.heap.size w w'
theorem Own1.nil_ {α : Type} (w : World) (base : Nat) (t : TypeId) (size : Nat) (R : List Value → α → Prop) : Own1 w base t size R (.slice none 0 0) ([] : List α) := ⟨[], World.ownsRow_nil _ _ _ _, FlatR.nil_⟩
theorem Blk.drw {w : World} {g : Nat} {t : TypeId} {cs : Array Value} (h : Blk w g t cs) : Blk w.drew g t cs := h
theorem lines_step {l : List Nat} (out : List Ins) (hl : l ≠ []) : linesN l.length l out =
    match readN (aheadC 10 l) with
    | some x => if l.contains 10 = true then linesN (behindC 10 l).length (behindC 10 l) (out ++ [x]) else .inr out.length
    | none => .inr out.length := by
  have h0 : 0 < l.length := List.length_pos_iff.2 hl
  obtain ⟨f, hf⟩ : ∃ f, l.length = f + 1 := ⟨l.length - 1, by omega⟩
  rw [hf, linesN]
  rw [if_neg hl]
  have := (ahead_len 10 l).2.2 hl
  cases readN (aheadC 10 l) with
  | none => rfl
  | some x =>
    show (if _ then _ else _) = (if _ then _ else _)
    rw [lines_more f (behindC 10 l).length (behindC 10 l) _ (by omega) (Nat.le_refl _)]
theorem txt_nil {l : List Nat} (h : l ≠ []) : (txt l).toList ≠ [] := by
  intro e
  have e2 : (txt l).toList = (⟨#[]⟩ : ByteArray).toList := e.trans (by rw [ByteArray.toList_eq])
  have := (toList_inj _ _).1 e2
  have h3 := txt_size l
  rw [this] at h3
  exact h (List.eq_nil_of_length_eq_zero h3.symm)

theorem Own1.keepB {α : Type} {w w' : World} {base size : Nat} {e : TypeId} {R : List Value → α → Prop} {v : Value} {l : List α} (h : Own1 w base e size R v l) (hb : Below w.heap.size w w') : Own1 w' base e size R v l := h.below hb (Nat.le_refl _)
set_option maxRecDepth 100000 in
set_option maxHeartbeats 4000000 in
theorem parse_any (s : ByteArray) (hs : s.size ≤ maxLen) (w : World) (hw : Lays w) : Calls Tryd.prog 15 #[.string s] w (ParseK w (bs s)) := by
  obtain ⟨L, hL⟩ : ∃ x, bs s = x := ⟨_, rfl⟩
  have hlen : s.size = L.length := by rw [← hL, bs_len]
  have hLb : Bytes L := by rw [← hL]; exact bs_bytes s
  obtain rfl : s = txt L := by rw [← hL, txt_bs]
  rw [hL]
  have HW := Lib.hid hw
  obtain ⟨R, hR⟩ : ∃ x, parseC L = x := ⟨_, rfl⟩
  have HR := Lib.hid hR
  have HLB := Lib.hid hLb
  clear hL hR hw hLb
  unfold ParseK
  rw [HR.out]
  by_cases hbig : 1048576 < L.length
  · have hb1 : (1048576 : Int) < ((txt L).size : Int) := by omega
    have hv : R = ([], 0, 3) := by rw [← HR.out]; unfold parseC; rw [if_pos hbig]
    have HV := Lib.hid hv
    clear hv hlen hbig hs
    go_enter Tryd.func15, Tryd.ntmps15
    go_wp2_with fail
    have B0 := Blk.new w 24 #[.slice none 0 0]
    have q0 := B0.cell (i := 0) rfl
    refine bodyPost_ret (v := .tuple #[.agg #[.slice none 0 0], .int .i64 0, .int .i64 3]) (by simp [results, Tryd.results15, go_sem, q0]) rfl ?_
    rw [HV.out]
    exact ⟨_, rfl, Own1.nil_ _ _ _ _ _, (Below.refl _ _).alloc (Nat.le_refl _) _⟩
  · have hb1 : ¬ (1048576 : Int) < ((txt L).size : Int) := by omega
    have hb2 : L.length ≤ 1048576 := by omega
    have hv : R = match linesN L.length L [] with | .inr k => ([], k, 110) | .inl c => if (rightC c).2 ≠ 0 then ([], (rightC c).1, (rightC c).2) else (c, 0, 0) := by rw [← HR.out]; unfold parseC; rw [if_neg hbig]; rfl
    have HV := Lib.hid hv
    obtain ⟨jI, hi, hz, hsz, hby⟩ := info_parts info_Ins
    have I := Lib.hid (And.intro hi (And.intro hz (And.intro hsz hby)))
    have HB2 := Lib.hid hb2
    clear hv hbig hs hi hz hsz hby hlen hb2
    go_enter Tryd.func15, Tryd.ntmps15
    go_wp2_with fail
    go_loopw [0, 3, 4, 6, 7, 8, 9, 10] (fun x _ _ _ _ _ _ _ wr => ∃ (a : Option Addr) (n c : Nat) (rem : List Nat) (cl : List Ins), x = .string (txt rem) ∧ Hid (Bytes rem ∧ cl.length + rem.length ≤ L.length ∧ linesN L.length L [] = linesN rem.length rem cl ∧ n = cl.length) ∧ Hid (Own1 wr (w.heap.size + 2) 46 4 Ins.Is (.slice a n c) cl ∧ Blk wr (w.heap.size + 1) 24 #[.slice a n c] ∧ Blk wr w.heap.size 24 #[.slice none 0 0] ∧ Below w.heap.size w wr)) (fun x _ _ _ _ _ _ _ _ => strLen x)
    case atStart =>
      exact ⟨none, 0, 0, L, [], rfl, Lib.hid ⟨HLB.out, by simp, rfl, rfl⟩, Lib.hid ⟨Own1.nil_ _ _ _ _ _, Blk.new_ (by simp) _ _, (Blk.new w _ _).alloc _, ((Below.refl _ _).alloc (Nat.le_refl _) _).alloc (by simp) _⟩⟩
    case round =>
      obtain ⟨a, n, c, rem, cl, rfl, hI, hB⟩ := hrel
      have v0 : wr.cell? ⟨w.heap.size + 1, 0, none⟩ = some (.slice a n c) := hB.out.2.1.cell rfl
      have r0 : wr.cell? ⟨w.heap.size, 0, none⟩ = some (.slice none 0 0) := hB.out.2.2.1.cell rfl
      have f0 := hB.out.2.2.1.frozen 0
      have s0 : w.heap.size + 1 < wr.heap.size := hB.out.2.1.lt
      have s00 : w.heap.size < wr.heap.size := by omega
      by_cases hrem : rem = []
      · subst hrem
        rw [show txt [] = (⟨#[]⟩ : ByteArray) from rfl]
        have RC := Lib.hid (right_code wr wr (hB.out.1.read (by decide)) (Below.refl _ _))
        obtain ⟨e1, he1⟩ : ∃ x, (rightC cl).1 = x := ⟨_, rfl⟩
        obtain ⟨e2, he2⟩ : ∃ x, (rightC cl).2 = x := ⟨_, rfl⟩
        rw [he1, he2] at RC
        have HV2 : Hid (R = if e2 ≠ 0 then ([], e1, e2) else (cl, 0, 0)) := Lib.hid (by rw [HV.out, hI.out.2.2.1, ← he1, ← he2]; rfl)
        clear he1 he2 HV
        by_cases hz : e2 = 0
        · have hz1 : ((e2 : Int) != 0) = false := by simp [hz]
          have hz2 : ((e2 : Int) == 0) = true := by simp [hz]
          have HZ := Lib.hid hz
          clear hz
          go_wp2_with (first
            | (go_at_call 6; refine (RC.out).mono ?_; rintro e w4 ⟨rfl, hb⟩; have K4 := Lib.hid (And.intro (hB.out.1.keepB hb) (And.intro (hB.out.2.1.below hb hB.out.2.1.lt) (And.intro (hB.out.2.2.1.below hb hB.out.2.2.1.lt) (hB.out.2.2.2.trans (hb.mono hB.out.2.2.2.size))))); have v4 : w4.cell? ⟨w.heap.size + 1, 0, none⟩ = some (.slice a n c) := K4.out.2.1.cell rfl; have r4 : w4.cell? ⟨w.heap.size, 0, none⟩ = some (.slice none 0 0) := K4.out.2.2.1.cell rfl; have f4 := K4.out.2.2.1.frozen 0; clear hb)
            | fail)
          generalize hz : World.setCell _ _ _ = wz
          have BZ : Blk wz w.heap.size 24 #[.slice a n c] := by rw [← hz]; have h := K4.out.2.2.1.set_ 0 (.slice a n c); simpa using h
          have LZ : Below w.heap.size w wz := by rw [← hz]; exact K4.out.2.2.2.setCell (p := ⟨w.heap.size, 0, none⟩) (Nat.le_refl _) _
          have OZ : Own1 wz (w.heap.size + 2) 46 4 Ins.Is (.slice a n c) cl := by rw [← hz]; exact K4.out.1.setFar (p := ⟨w.heap.size, 0, none⟩) (by show w.heap.size < w.heap.size + 2; omega) _
          clear hz
          have q0 := BZ.cell (i := 0) rfl
          refine bodyPost_ret (v := .tuple #[.agg #[.slice a n c], .int .i64 0, .int .i64 0]) (by simp [results, Tryd.results15, go_sem, q0]) rfl ?_
          have hv := HV2.out
          rw [if_neg (by have := HZ.out; omega)] at hv
          rw [hv]
          exact ⟨_, rfl, OZ.mono (by omega), LZ⟩
        · have hz1 : ((e2 : Int) != 0) = true := by simpa using hz
          have hz2 : ((e2 : Int) == 0) = false := by simpa using hz
          have HZ := Lib.hid hz
          clear hz
          go_wp2_with (first
            | (go_at_call 6; refine (RC.out).mono ?_; rintro e w4 ⟨rfl, hb⟩; have K4 := Lib.hid (And.intro (hB.out.1.keepB hb) (And.intro (hB.out.2.1.below hb hB.out.2.1.lt) (And.intro (hB.out.2.2.1.below hb hB.out.2.2.1.lt) (hB.out.2.2.2.trans (hb.mono hB.out.2.2.2.size))))); have v4 : w4.cell? ⟨w.heap.size + 1, 0, none⟩ = some (.slice a n c) := K4.out.2.1.cell rfl; have r4 : w4.cell? ⟨w.heap.size, 0, none⟩ = some (.slice none 0 0) := K4.out.2.2.1.cell rfl; have f4 := K4.out.2.2.1.frozen 0; clear hb)
            | fail)
          have hv := HV2.out
          rw [if_pos HZ.out] at hv
          generalize hz : World.setCell _ _ _ = wz
          have BZ : Blk wz w.heap.size 24 #[.slice none 0 0] := by rw [← hz]; have h := K4.out.2.2.1.set_ 0 (.slice none 0 0); simpa using h
          have LZ : Below w.heap.size w wz := by rw [← hz]; exact K4.out.2.2.2.setCell (p := ⟨w.heap.size, 0, none⟩) (Nat.le_refl _) _
          clear hz
          have q0 := BZ.cell (i := 0) rfl
          refine bodyPost_ret (v := .tuple #[.agg #[.slice none 0 0], .int .i64 (e1 : Int), .int .i64 (e2 : Int)]) (by simp [results, Tryd.results15, go_sem, q0]) rfl ?_
          rw [hv]
          exact ⟨_, rfl, Own1.nil_ _ _ _ _ _, LZ⟩

      · have tx := txt_nil hrem
        have tx1 : (!(txt rem).toList.isEmpty) = true := by simpa using tx
        have tx2 : ((txt rem).toList == []) = false := by simpa using tx
        have tx3 : ((txt rem).toList != []) = true := by simpa using tx
        have tx4 : (txt rem).toList.isEmpty = false := by simpa using tx
        have HST := Lib.hid (lines_step cl hrem)
        obtain ⟨ha1, hb1, hb2⟩ := ahead_len 10 rem
        have HLT := Lib.hid (hb2 hrem)
        have CUT : Hid (∀ W, Below w.heap.size w W → Calls Tryd.prog 31 #[.string (txt rem), .string ⟨#[10]⟩] W fun e w' => e = .returned (.tuple #[.string (txt (aheadC 10 rem)), .string (txt (behindC 10 rem)), .bool (rem.contains 10)]) ∧ Below W.heap.size W w') := Lib.hid (fun W hW => by
          have h := cut_any (txt rem) 10 (by rw [txt_size]; have := hI.out.2.1; have := HB2.out; omega) W (HW.out.mx.below hW)
          rw [bs_txt hI.out.1] at h
          exact h)
        have LN : Hid (∀ W, Below w.heap.size w W → Calls Tryd.prog 32 #[.string (txt (aheadC 10 rem))] W (LineK W (aheadC 10 rem))) := Lib.hid (fun W hW => line_any (aheadC 10 rem) (ahead_bytes hI.out.1).1 (by have := hI.out.2.1; have := HB2.out; omega) W (HW.out.below hW))
        clear hrem ha1 hb1 hb2 tx
        rcases hct : rem.contains 10 with _ | _
        · rw [hct] at CUT HST
          clear hct
          go_wp2_with (first
            | (go_at_call 31; go_must (refine (CUT.out _ hB.out.2.2.2).mono ?_); rintro e w2 ⟨rfl, hb⟩; have K2 := Lib.hid (And.intro (hB.out.1.keepB hb) (And.intro (hB.out.2.1.below hb hB.out.2.1.lt) (And.intro (hB.out.2.2.1.below hb hB.out.2.2.1.lt) (hB.out.2.2.2.trans (hb.mono hB.out.2.2.2.size))))); clear hb)
            | (go_at_call 32; go_must (refine (LN.out _ K2.out.2.2.2).mono ?_); go_must (rintro e w3 ⟨op, arg, int, t, b, rfl, hok, hb, hyes, hno⟩); go_must (have K3 := Lib.hid (And.intro (K2.out.1.keepB hb) (And.intro (K2.out.2.1.below hb K2.out.2.1.lt) (And.intro (K2.out.2.2.1.below hb K2.out.2.2.1.lt) (K2.out.2.2.2.trans (hb.mono K2.out.2.2.2.size)))))); go_must (have HOK := Lib.hid hok); go_must (have HYES := Lib.hid hyes); go_must (have HNO := Lib.hid hno); go_must (have v3 : w3.cell? ⟨w.heap.size + 1, 0, none⟩ = some (.slice a n c) := K3.out.2.1.cell rfl); go_must (have r3 : w3.cell? ⟨w.heap.size, 0, none⟩ = some (.slice none 0 0) := K3.out.2.2.1.cell rfl); go_must (have f3 := K3.out.2.2.1.frozen 0); go_must (have g3 := K3.out.2.1.frozen 0); go_must (have s3 : w.heap.size + 1 < w3.heap.size := K3.out.2.1.lt); go_must (have s30 : w.heap.size < w3.heap.size := by omega); go_must (clear hb hok hyes hno); cases b)
            | fail)
          all_goals
            have hv : R = ([], cl.length, 110) := by
              rw [HV.out, hI.out.2.2.1, HST.out]
              first
                | (rw [HNO.out (by trivial)])
                | (rw [HYES.out (by trivial)]; rfl)
            have hnl : n = cl.length := hI.out.2.2.2
            have HVR := Lib.hid hv
            have HNL := Lib.hid hnl
            clear hv hnl
            go_region
            all_goals
              go_wp2_with fail
              have hv := HVR.out
              rw [← HNL.out] at hv
              generalize hz : World.drew _ = wz
              have BZ : Blk wz w.heap.size 24 #[.slice none 0 0] := by rw [← hz]; have h := K3.out.2.2.1.set_ 0 (.slice none 0 0); exact Blk.drw (Blk.alloc (by simpa using h) _)
              have LZ : Below w.heap.size w wz := by rw [← hz]; exact ((K3.out.2.2.2.setCell (p := ⟨w.heap.size, 0, none⟩) (Nat.le_refl _) _).alloc (by have := K3.out.2.2.2.size; simpa using this) _).drew
              clear hz
              have q0 := BZ.cell (i := 0) rfl
              refine bodyPost_ret (v := .tuple #[.agg #[.slice none 0 0], .int .i64 (n : Int), .int .i64 110]) (by simp [results, Tryd.results15, go_sem, q0]) rfl ?_
              rw [hv]
              exact ⟨_, rfl, Own1.nil_ _ _ _ _ _, LZ⟩

        · rw [hct] at CUT HST
          clear hct
          go_wp2_with (first
            | (go_at_call 31; go_must (refine (CUT.out _ hB.out.2.2.2).mono ?_); rintro e w2 ⟨rfl, hb⟩; have K2 := Lib.hid (And.intro (hB.out.1.keepB hb) (And.intro (hB.out.2.1.below hb hB.out.2.1.lt) (And.intro (hB.out.2.2.1.below hb hB.out.2.2.1.lt) (hB.out.2.2.2.trans (hb.mono hB.out.2.2.2.size))))); clear hb)
            | (go_at_call 32; go_must (refine (LN.out _ K2.out.2.2.2).mono ?_); go_must (rintro e w3 ⟨op, arg, int, t, b, rfl, hok, hb, hyes, hno⟩); go_must (have K3 := Lib.hid (And.intro (K2.out.1.keepB hb) (And.intro (K2.out.2.1.below hb K2.out.2.1.lt) (And.intro (K2.out.2.2.1.below hb K2.out.2.2.1.lt) (K2.out.2.2.2.trans (hb.mono K2.out.2.2.2.size)))))); go_must (have HOK := Lib.hid hok); go_must (have HYES := Lib.hid hyes); go_must (have HNO := Lib.hid hno); go_must (have v3 : w3.cell? ⟨w.heap.size + 1, 0, none⟩ = some (.slice a n c) := K3.out.2.1.cell rfl); go_must (have r3 : w3.cell? ⟨w.heap.size, 0, none⟩ = some (.slice none 0 0) := K3.out.2.2.1.cell rfl); go_must (have f3 := K3.out.2.2.1.frozen 0); go_must (have g3 := K3.out.2.1.frozen 0); go_must (have s3 : w.heap.size + 1 < w3.heap.size := K3.out.2.1.lt); go_must (have s30 : w.heap.size < w3.heap.size := by omega); go_must (clear hb hok hyes hno); cases b)
            | (at_builtin
               go_must (refine wpList_append_list rfl (.tmp 41) (.tmp 43) _ (by rfl) (w.heap.size + 2) (w3.heap.size + 1 + 1) 46 jI _ 4 40 Tryd.underlying22 I.out.1 I.out.2.1 I.out.2.2.1 I.out.2.2.2 rfl (by omega) (R := Ins.Is) (l := cl) (m := [⟨op, arg, int, t⟩]) (.slice a n c) (by rfl) (by exact ((K3.out.1.alloc (.cells #[.int .i64 op, .int .i64 arg, .int .i64 int, .string t] 46)).alloc (.cells #[.int .i64 op, .int .i64 arg, .int .i64 int, .string t] 46))) (some ⟨w3.heap.size + 1, 0, none⟩) 1 1 (by rfl) (by have := SlR.new1 (w := w3.alloc (.cells #[.int .i64 op, .int .i64 arg, .int .i64 int, .string t] 46)) (e := 46) (g := w3.heap.size + 1) (by simp) (x := [.int .i64 op, .int .i64 arg, .int .i64 int, .string t]) rfl (R := Ins.Is) (y := ⟨op, arg, int, t⟩) ⟨rfl, HOK.out⟩; simpa using this) (n + 1) (by rw [hI.out.2.2.2]) Ins.Is.one (by have := hI.out.2.1; have := HB2.out; unfold maxLen; omega) (by have := hI.out.2.1; have := HB2.out; omega) (by simp; omega) ?_)
               intro a5 c5 w5 hown hgr
               have hne : ∀ k, k < w.heap.size + 2 → some k ≠ (Value.slice a n c).ownBlock := fun k hk e => by have := (K3.out.1.block k e.symm).1; omega
               have K5 : Hid (Own1 w5 (w.heap.size + 2) 46 4 Ins.Is (.slice a5 (n + 1) c5) (cl ++ [⟨op, arg, int, t⟩]) ∧ Blk w5 (w.heap.size + 1) 24 #[.slice a n c] ∧ Blk w5 w.heap.size 24 #[.slice none 0 0] ∧ Below w.heap.size w w5) := Lib.hid ⟨hown, ((K3.out.2.1.alloc _).alloc _).grown hgr (hne _ (by omega)), ((K3.out.2.2.1.alloc _).alloc _).grown hgr (hne _ (by omega)), ((K3.out.2.2.2.alloc K3.out.2.2.2.size _).alloc (by have := K3.out.2.2.2.size; simp; omega) _).grown hgr (by have := K3.out.2.2.2.size; simp; omega) (fun g hg => by have := (K3.out.1.block g hg).1; omega)⟩
               have v5 : w5.cell? ⟨w.heap.size + 1, 0, none⟩ = some (.slice a n c) := K5.out.2.1.cell rfl
               have g5 := K5.out.2.1.frozen 0
               clear hown hgr hne)
            | fail)
          · have hv : R = ([], cl.length, 110) := by rw [HV.out, hI.out.2.2.1, HST.out, HNO.out (by trivial)]
            have hnl : n = cl.length := hI.out.2.2.2
            have HVR := Lib.hid hv
            have HNL := Lib.hid hnl
            clear hv hnl
            go_region
            all_goals
              go_wp2_with fail
              have hv := HVR.out
              rw [← HNL.out] at hv
              generalize hz : World.drew _ = wz
              have BZ : Blk wz w.heap.size 24 #[.slice none 0 0] := by rw [← hz]; have h := K3.out.2.2.1.set_ 0 (.slice none 0 0); exact Blk.drw (Blk.alloc (by simpa using h) _)
              have LZ : Below w.heap.size w wz := by rw [← hz]; exact ((K3.out.2.2.2.setCell (p := ⟨w.heap.size, 0, none⟩) (Nat.le_refl _) _).alloc (by have := K3.out.2.2.2.size; simpa using this) _).drew
              clear hz
              have q0 := BZ.cell (i := 0) rfl
              refine bodyPost_ret (v := .tuple #[.agg #[.slice none 0 0], .int .i64 (n : Int), .int .i64 110]) (by simp [results, Tryd.results15, go_sem, q0]) rfl ?_
              rw [hv]
              exact ⟨_, rfl, Own1.nil_ _ _ _ _ _, LZ⟩

          · go_roundw
            case rel =>
              refine ⟨a5, n + 1, c5, behindC 10 rem, cl ++ [⟨op, arg, int, t⟩], rfl, Lib.hid ⟨(ahead_bytes hI.out.1).2, ?_, ?_, ?_⟩, Lib.hid ⟨?_, ?_, ?_, ?_⟩⟩
              · have := hI.out.2.1; have := HLT.out; simp; omega
              · rw [hI.out.2.2.1, HST.out, HYES.out (by trivial)]; rfl
              · rw [List.length_append, hI.out.2.2.2]; rfl
              · exact K5.out.1.setFar (p := ⟨w.heap.size + 1, 0, none⟩) (by show w.heap.size + 1 < w.heap.size + 2; omega) _
              · have h := K5.out.2.1.set_ 0 (.slice a5 (n + 1) c5); simpa using h
              · exact K5.out.2.2.1.far (p := ⟨w.heap.size + 1, 0, none⟩) (by show w.heap.size ≠ w.heap.size + 1; omega) _
              · exact K5.out.2.2.2.setCell (p := ⟨w.heap.size + 1, 0, none⟩) (by show w.heap.size ≤ w.heap.size + 1; omega) _
            case measure => simp only [strLen, txt_size]; exact HLT.out
end Go.Proofs.YtdkoafmgenbkbaaDoor
