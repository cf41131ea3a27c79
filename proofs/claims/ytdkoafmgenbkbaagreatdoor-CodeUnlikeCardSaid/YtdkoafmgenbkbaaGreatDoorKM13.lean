/- - - - - -/
import Derived.Test.YtdkoafmgenbkbaaGreatDoorKLIn1
import Derived.Test.YtdkoafmgenbkbaaGreatDoorKLIn2
import Derived.Test.YtdkoafmgenbkbaaGreatDoorKLIn3
import Derived.Test.YtdkoafmgenbkbaaGreatDoorKLIn4
import Derived.Test.YtdkoafmgenbkbaaGreatDoorKLIn5
import Derived.Test.YtdkoafmgenbkbaaGreatDoorKLIn6
import Derived.Test.YtdkoafmgenbkbaaGreatDoorKLIn7
import Derived.Test.YtdkoafmgenbkbaaGreatDoorKM3
import Derived.Test.YtdkoafmgenbkbaaGreatDoorKM5
set_option maxRecDepth 100000
set_option maxHeartbeats 32000000
set_option linter.unusedSimpArgs false
set_option linter.unusedVariables false
namespace Go.Proofs.YtdkoafmgenbkbaaGreatDoor
open Go.RowKit
theorem ins_any {W0 W : World} {k g n c : Nat} {la : Option Addr} {ln lc : Nat} {cl : List Ins} {l : List Pl} {i : Nat} {p : Pl} (x : Ins) (h1 : 1 ≤ x.op) (h2 : x.op ≤ 40) (I : InsPre W0 W k g n c la ln lc cl l i p x.arg) :
    Calls Tryz.prog 23 #[.pointer (some ⟨k, 0, none⟩), .int .i64 i, .agg #[.int .i64 x.op, .int .i64 x.arg, .int .i64 x.int, .string x.text]] W (LedTo W g (insN cl l i p x)) := by
  obtain ⟨op, arg, int, text⟩ := x
  simp only at h1 h2 I ⊢
  by_cases hl : p.loops = []
  · rcases (by omega : op = 1 ∨ op = 2 ∨ op = 3 ∨ op = 4 ∨ op = 5 ∨ op = 6 ∨ op = 7 ∨ op = 8 ∨ op = 9 ∨ op = 10 ∨ op = 11 ∨ op = 12 ∨ op = 13 ∨ op = 14 ∨ op = 15 ∨ op = 16 ∨ op = 17 ∨ op = 18 ∨ op = 19 ∨ op = 20 ∨ op = 21 ∨ op = 22 ∨ op = 23 ∨ op = 24 ∨ op = 25 ∨ op = 26 ∨ op = 27 ∨ op = 28 ∨ op = 29 ∨ op = 30 ∨ op = 31 ∨ op = 32 ∨ op = 33 ∨ op = 34 ∨ op = 35 ∨ op = 36 ∨ op = 37 ∨ op = 38 ∨ op = 39 ∨ op = 40) with rfl | rfl | rfl | rfl | rfl | rfl | rfl | rfl | rfl | rfl | rfl | rfl | rfl | rfl | rfl | rfl | rfl | rfl | rfl | rfl | rfl | rfl | rfl | rfl | rfl | rfl | rfl | rfl | rfl | rfl | rfl | rfl | rfl | rfl | rfl | rfl | rfl | rfl | rfl | rfl
    · exact ins_1_e int text I hl
    · exact ins_g2_e (by omega) int text I hl
    · exact ins_g2_e (by omega) int text I hl
    · exact ins_g2_e (by omega) int text I hl
    · exact ins_g2_e (by omega) int text I hl
    · exact ins_g2_e (by omega) int text I hl
    · exact ins_g2_e (by omega) int text I hl
    · exact ins_8_e int text I hl
    · exact ins_g2_e (by omega) int text I hl
    · exact ins_d4_e (by omega) int text I hl
    · exact ins_d4_e (by omega) int text I hl
    · exact ins_d4_e (by omega) int text I hl
    · exact ins_d0_e (by omega) int text I hl
    · exact ins_d4_e (by omega) int text I hl
    · exact ins_d4_e (by omega) int text I hl
    · exact ins_d0_e (by omega) int text I hl
    · exact ins_d0_e (by omega) int text I hl
    · exact ins_d0_e (by omega) int text I hl
    · exact ins_d0_e (by omega) int text I hl
    · exact ins_d0_e (by omega) int text I hl
    · exact ins_d0_e (by omega) int text I hl
    · exact ins_g22_e (by omega) int text I hl
    · exact ins_g22_e (by omega) int text I hl
    · exact ins_g22_e (by omega) int text I hl
    · exact ins_g22_e (by omega) int text I hl
    · exact ins_g22_e (by omega) int text I hl
    · exact ins_g22_e (by omega) int text I hl
    · exact ins_g22_e (by omega) int text I hl
    · exact ins_29_e int text I hl
    · exact ins_g30_e (by omega) int text I hl
    · exact ins_g30_e (by omega) int text I hl
    · exact ins_32_e int text I hl
    · exact ins_33_e int text I hl
    · exact ins_34_e int text I hl
    · exact ins_g35_e (by omega) int text I hl
    · exact ins_g35_e (by omega) int text I hl
    · exact ins_g35_e (by omega) int text I hl
    · exact ins_g35_e (by omega) int text I hl
    · exact ins_39_e int text I hl
    · exact ins_40_e int text I hl
  · rcases (by omega : op = 1 ∨ op = 2 ∨ op = 3 ∨ op = 4 ∨ op = 5 ∨ op = 6 ∨ op = 7 ∨ op = 8 ∨ op = 9 ∨ op = 10 ∨ op = 11 ∨ op = 12 ∨ op = 13 ∨ op = 14 ∨ op = 15 ∨ op = 16 ∨ op = 17 ∨ op = 18 ∨ op = 19 ∨ op = 20 ∨ op = 21 ∨ op = 22 ∨ op = 23 ∨ op = 24 ∨ op = 25 ∨ op = 26 ∨ op = 27 ∨ op = 28 ∨ op = 29 ∨ op = 30 ∨ op = 31 ∨ op = 32 ∨ op = 33 ∨ op = 34 ∨ op = 35 ∨ op = 36 ∨ op = 37 ∨ op = 38 ∨ op = 39 ∨ op = 40) with rfl | rfl | rfl | rfl | rfl | rfl | rfl | rfl | rfl | rfl | rfl | rfl | rfl | rfl | rfl | rfl | rfl | rfl | rfl | rfl | rfl | rfl | rfl | rfl | rfl | rfl | rfl | rfl | rfl | rfl | rfl | rfl | rfl | rfl | rfl | rfl | rfl | rfl | rfl | rfl
    · exact ins_1_n int text I hl
    · exact ins_g2_n (by omega) int text I hl
    · exact ins_g2_n (by omega) int text I hl
    · exact ins_g2_n (by omega) int text I hl
    · exact ins_g2_n (by omega) int text I hl
    · exact ins_g2_n (by omega) int text I hl
    · exact ins_g2_n (by omega) int text I hl
    · exact ins_8_n int text I hl
    · exact ins_g2_n (by omega) int text I hl
    · exact ins_d4_n (by omega) int text I hl
    · exact ins_d4_n (by omega) int text I hl
    · exact ins_d4_n (by omega) int text I hl
    · exact ins_d0_n (by omega) int text I hl
    · exact ins_d4_n (by omega) int text I hl
    · exact ins_d4_n (by omega) int text I hl
    · exact ins_d0_n (by omega) int text I hl
    · exact ins_d0_n (by omega) int text I hl
    · exact ins_d0_n (by omega) int text I hl
    · exact ins_d0_n (by omega) int text I hl
    · exact ins_d0_n (by omega) int text I hl
    · exact ins_d0_n (by omega) int text I hl
    · exact ins_g22_n (by omega) int text I hl
    · exact ins_g22_n (by omega) int text I hl
    · exact ins_g22_n (by omega) int text I hl
    · exact ins_g22_n (by omega) int text I hl
    · exact ins_g22_n (by omega) int text I hl
    · exact ins_g22_n (by omega) int text I hl
    · exact ins_g22_n (by omega) int text I hl
    · exact ins_29_n int text I hl
    · exact ins_g30_n (by omega) int text I hl
    · exact ins_g30_n (by omega) int text I hl
    · exact ins_32_n int text I hl
    · exact ins_33_n int text I hl
    · exact ins_34_n int text I hl
    · exact ins_g35_n (by omega) int text I hl
    · exact ins_g35_n (by omega) int text I hl
    · exact ins_g35_n (by omega) int text I hl
    · exact ins_g35_n (by omega) int text I hl
    · exact ins_39_n int text I hl
    · exact ins_40_n int text I hl
end Go.Proofs.YtdkoafmgenbkbaaGreatDoor
namespace Go.Proofs.YtdkoafmgenbkbaaGreatDoor
open Go.RowKit
theorem info_Place : (Tryz.prog.info? 69).map (fun i => (i.zero, i.size, i.bytes)) = some (some (.agg #[.bool false, .int .i64 0, .slice none 0 0]), 3, 40) := by kernel_rfl
theorem endN_yes {l : List Pl} {n : Nat} {p : Pl} (hp : l[n]? = some p) (h1 : p.known = true) (h2 : p.height = 1) (h3 : p.loops = []) : endN l n = (0, 0) := by
  unfold endN; rw [hp]; simp [h1, h2, h3]
theorem endN_no {l : List Pl} {n : Nat} {p : Pl} (hp : l[n]? = some p) (h : ¬ (p.known = true ∧ p.height = 1 ∧ p.loops = [])) : endN l n = (n, 110) := by
  unfold endN; rw [hp]; simp only [if_neg h]
theorem right_code {cl : List Ins} {v : Value} (w w0 : World) (hs : SlR w0 w0.heap.size 4 Ins.Is v cl) (hw : Below w0.heap.size w0 w) :
    Calls Tryz.prog 9 #[.agg #[v]] w fun e w' => e = .returned (.tuple #[.int .i64 ((rightC cl).1 : Int), .int .i64 ((rightC cl).2 : Int)]) ∧ Below w.heap.size w w' := by
  obtain ⟨a, c, rfl⟩ : ∃ a c, v = .slice a cl.length c := by obtain ⟨a, c, h, _⟩ := hs.form; exact ⟨a, c, h⟩
  have hn : cl.length ≤ 9223372036854775807 := by have := hs.caps; unfold maxLen at this; omega
  obtain ⟨n, hlen⟩ : ∃ n, cl.length = n := ⟨_, rfl⟩
  rw [hlen] at hs hn ⊢
  have Hlen := zH hlen
  have Hs := zH hs
  have Hw := zH hw
  clear hs hlen hw
  obtain ⟨R, hR⟩ : ∃ R, rightC cl = R := ⟨_, rfl⟩
  rw [hR]
  have HR := zH hR
  clear hR
  by_cases hbig : 1024 < n
  · have hb1 : (1024 : Int) < (n : Int) := by omega
    have hr : R = (0, 4) := by rw [← HR.out]; unfold rightC; rw [if_pos (by have := Hlen.out; omega)]
    go_enter Tryz.func9, Tryz.ntmps9
    go_wp2_with fail
    go_ret2
    exact ⟨by rw [hr]; rfl, zB.alloc zL _⟩
  · have hb1 : ¬ (1024 : Int) < (n : Int) := by omega
    have hb2 : (n : Int) ≤ 1024 := by omega
    have hn0 : (0 : Int) ≤ (n : Int) := Int.natCast_nonneg _
    have hr : goN cl n 0 (startN n) = R := by rw [← HR.out]; unfold rightC; rw [Hlen.out, if_neg hbig]
    have HG0 := zH hr
    clear hr
    obtain ⟨jP, hi, hz, hsz, hby⟩ := info_parts info_Place
    have hmk : ∀ W, (Instr.makeSlice 63 (.int .i64 ((n : Int) + 1)) (.int .i64 ((n : Int) + 1))).run Tryz.prog W = .ok (.slice (some ⟨W.heap.size, 0, none⟩) (n + 1) (n + 1)) (W.alloc (.cells (madeCells #[.bool false, .int .i64 0, .slice none 0 0] ((n + 1) * 3)) 69)) := fun W => by
      have h := run_make W 63 69 jP _ Tryz.underlying63 hi hz .i64 .i64 ((n : Int) + 1) ((n : Int) + 1) (by omega) (Int.le_refl _) (by rw [hby]; omega) (by omega)
      rw [hsz, show ((n : Int) + 1).toNat = n + 1 by omega] at h
      exact h
    clear hi hz hsz hby
    have wr1 : IntKind.i64.wrap ((n : Int) + 1) = (n : Int) + 1 := by rw [IntKind.wrap_i64]; omega
    go_enter Tryz.func9, Tryz.ntmps9
    go_wp2_with fail
    go_region
    generalize hW1 : World.drew _ = W1
    have s1 : W1.heap.size = w.heap.size + 3 := by rw [← hW1]; show (World.alloc _ _).heap.size = _; simp
    have L1 : Below w.heap.size w W1 := by rw [← hW1]; exact (((zB.alloc zL _).alloc (by simp) _).alloc (by simp; omega) _).drew
    have B0 : Blk W1 w.heap.size 24 #[.slice a n c] := by rw [← hW1]; exact ((Blk.new w _ _).alloc _).alloc _
    have BM : Blk W1 (w.heap.size + 1) 69 (madeCells #[.bool false, .int .i64 0, .slice none 0 0] ((n + 1) * 3)) := by rw [← hW1]; exact (Blk.new_ (by simp) _ _).alloc _
    have BK : Blk W1 (w.heap.size + 1 + 1) 65 #[.slice a n c, .slice (some ⟨w.heap.size + 1, 0, none⟩) (n + 1) (n + 1)] := by rw [← hW1]; exact Blk.new_ (by simp) _ _
    have PL1 : PlS W1 (w.heap.size + 1) (List.replicate (n + 1) Pl.none) := PlR.made (by decide) BM
    have K1 := zH (And.intro L1 (And.intro B0 (And.intro BK PL1)))
    have S1 := zH s1
    obtain ⟨g, hg⟩ : ∃ g, w.heap.size + 1 = g := ⟨_, rfl⟩
    obtain ⟨kk, hkk⟩ : ∃ kk, w.heap.size + 1 + 1 = kk := ⟨_, rfl⟩
    rw [hkk, hg] at K1
    rw [hkk, hg]
    have hgw : w.heap.size < g := by omega
    have hkw : g < kk := by omega
    have GK := zH (And.intro hg hkk)
    clear hW1 s1 L1 B0 BM BK PL1 hg hkk hmk
    have LD0 : Hid (Calls Tryz.prog 21 #[.pointer (some ⟨kk, 0, none⟩), .int .i64 0, .int .i64 0, .slice none 0 0] W1 (LedTo W1 g (some (startN n)))) := zH (by
      have h := lead_any (tw := 0) W1 0 (.slice none 0 0) [] K1.out.2.2.1 K1.out.2.2.2 (by simp) (by simp) (by omega) RowR.nil_
      rw [lead_start] at h
      exact h)
    go_wp2_with (first
      | (go_at_call 21; refine LD0.out.mono ?_; rintro e w2 ⟨rfl, hg2, hp2⟩; have P2 := hp2 _ rfl; have B02 := K1.out.2.1.grown hg2 (fun e => by injection e; omega); have BK2 := K1.out.2.2.1.grown hg2 (fun e => by injection e; omega); have L2 := below_grown K1.out.1 K1.out.1.size hg2 (Nat.le_of_lt hgw); have c0 : w2.cell? ⟨w.heap.size, 0, none⟩ = some (.slice a n c) := B02.cell rfl; have K2 := zH (And.intro L2 (And.intro B02 (And.intro BK2 P2))); clear hg2 hp2 P2 B02 BK2 L2 LD0)
      | fail)
    go_loopw [6, 7, 26] (fun _ _ j wr => ∃ k : Nat, k ≤ n ∧ j = .int .i64 k ∧ ∃ l : List Pl, Hid (l.length = n + 1 ∧ AllGood l ∧ goN cl (n - k) k l = R ∧ PlS wr g l ∧ Below w.heap.size w wr ∧ Blk wr w.heap.size 24 #[.slice a n c] ∧ Blk wr kk 65 #[.slice a n c, .slice (some ⟨g, 0, none⟩) (n + 1) (n + 1)])) (fun _ _ j _ => n - (intOf j).toNat)
    case atStart => exact ⟨0, Nat.zero_le _, rfl, startN n, zH ⟨start_len n, start_good n, HG0.out, K2.out.2.2.2, K2.out.1, K2.out.2.1, K2.out.2.2.1⟩⟩
    case round =>
      obtain ⟨k, hk, rfl, l, hI⟩ := hrel
      obtain ⟨p, hp⟩ : ∃ p, l[k]? = some p := ⟨_, List.getElem?_eq_getElem (by have := hI.out.1; omega)⟩
      obtain ⟨pv, e0, e1, e2, er⟩ := hI.out.2.2.2.1.at_ hp
      obtain ⟨pa, pc, rfl⟩ := er.form
      have hkk' := hI.out.2.2.2.2.2.2.lt
      have hgg' := hI.out.2.2.2.1.lt
      have hww' := hI.out.2.2.2.2.2.1.lt
      have ck1 : wr.cell? ⟨kk, 1, none⟩ = some (.slice (some ⟨g, 0, none⟩) (n + 1) (n + 1)) := hI.out.2.2.2.2.2.2.cell rfl
      have hk1 : (k : Int) < (n : Int) + 1 := by omega
      have hk0 : (0 : Int) ≤ (k : Int) := Int.natCast_nonneg _
      have hn1 : (n : Int) < (n : Int) + 1 := by omega
      by_cases hlt : k < n
      · obtain ⟨y, hy⟩ := get_some Hlen.out hlt
        have hw1 := Hw.out.trans (hI.out.2.2.2.2.1.mono Hw.out.size)
        obtain ⟨b, off, x, rfl, hbB, hxl, ⟨rfl, hyok⟩, hx⟩ := (Hs.out.below hw1).at_ hy
        have y0 := hx 0 _ rfl
        have y1 := hx 1 _ rfl
        have y2 := hx 2 _ rfl
        have y3 := hx 3 _ rfl
        simp only [Nat.add_zero] at y0
        have PLC := zH (fun W => plain_any y hyok W)
        have STP := zH (go_step (c := cl) (l := l) hlt)
        have STQ := zH (step_of hp hy)
        have HY := zH (And.intro hy (And.intro hp hlt))
        have INP : Hid (p.known = true → plainN y = true → ∀ W5, Below wr.heap.size wr W5 → InsPre w0 W5 kk g (n + 1) (n + 1) (some ⟨b, off, none⟩) n c cl l k p y.arg) := zH (fun hkn hpl W5 hb => ⟨hI.out.2.2.2.2.2.2.below hb hkk', Hs.out, hw1.trans (hb.mono hw1.size), hI.out.2.2.2.1.below hb, hI.out.1.symm, by rw [Hlen.out], by rw [Hlen.out]; omega, by rw [Hlen.out]; exact hlt, hp, hI.out.2.1 k p hp hkn, (plain_ops hpl).2.2⟩)
        clear hx hxl hw1 hy hp er
        obtain ⟨pk, hpk⟩ : ∃ q, p.known = q := ⟨_, rfl⟩
        rw [hpk] at e0 INP STQ
        cases pk with
        | false =>
          have HRK : Hid (R = (k, 110)) := zH (by rw [← hI.out.2.2.1, STP.out, STQ.out]; simp)
          clear hpk STP STQ INP PLC
          go_wp2_with fail
          go_ret2
          exact ⟨by rw [HRK.out]; rfl, hI.out.2.2.2.2.1.alloc hI.out.2.2.2.2.1.size _⟩
        | true =>
          obtain ⟨pq, hpq⟩ : ∃ q, plainN y = q := ⟨_, rfl⟩
          rw [hpq] at PLC STQ
          cases pq with
          | false =>
            have HRK : Hid (R = (k, 110)) := zH (by rw [← hI.out.2.2.1, STP.out, STQ.out]; simp)
            clear hpk hpq STP STQ INP
            go_wp2_with (first
              | (go_at_call 22; refine (PLC.out _).mono ?_; rintro e w5 ⟨rfl, hb⟩; have hb5 : Below wr.heap.size wr w5 := (zB.alloc zL _).trans (hb.mono (by simp)); have B5 : Blk w5 wr.heap.size 42 #[.int .i64 y.op, .int .i64 y.arg, .int .i64 y.int, .string y.text] := (Blk.new wr _ _).below hb (by simp); obtain ⟨x0, x1, x2, x3⟩ := B5.k4; have HB5 := zH hb5; clear hb hb5 B5)
              | fail)
            go_ret2
            exact ⟨by rw [HRK.out]; rfl, hI.out.2.2.2.2.1.trans (HB5.out.mono hI.out.2.2.2.2.1.size)⟩
          | true =>
            have HPL := zH hpq
            have INQ : Hid (∀ W5, Below wr.heap.size wr W5 → InsPre w0 W5 kk g (n + 1) (n + 1) (some ⟨b, off, none⟩) n c cl l k p y.arg) := zH (INP.out rfl hpq)
            rcases hin : insN cl l k p y with _ | lq
            · have HIN := zH hin
              have HRK : Hid (R = (k, 110)) := zH (by rw [← hI.out.2.2.1, STP.out, STQ.out, hin]; simp)
              clear hpk hpq STP STQ hin
              go_wp2_with (first
                | (go_at_call 22; refine (PLC.out _).mono ?_; rintro e w5 ⟨rfl, hb⟩; have hb5 : Below wr.heap.size wr w5 := (zB.alloc zL _).trans (hb.mono (by simp)); have B5 : Blk w5 wr.heap.size 42 #[.int .i64 y.op, .int .i64 y.arg, .int .i64 y.int, .string y.text] := (Blk.new wr _ _).below hb (by simp); obtain ⟨x0, x1, x2, x3⟩ := B5.k4; have HB5 := zH hb5; clear hb hb5 B5)
                | (go_at_call 23; go_must (refine (ins_any y (plain_ops HPL.out).1 (plain_ops HPL.out).2.1 (INQ.out _ HB5.out)).mono ?_; rintro e w6 ⟨he, hg6, hp6⟩; rw [HIN.out] at he hp6; simp only [Option.isSome_none] at he; subst he; have HG6 := zH (And.intro hg6 hp6); clear hg6 hp6))
                | fail)
              go_ret2
              exact ⟨by rw [HRK.out]; rfl, below_grown (hI.out.2.2.2.2.1.trans (HB5.out.mono hI.out.2.2.2.2.1.size)) (by have := hI.out.2.2.2.2.1.size; have := HB5.out.size; omega) HG6.out.1 (Nat.le_of_lt hgw)⟩
            · have HIN := zH hin
              have HGO : Hid (goN cl (n - (k + 1)) (k + 1) lq = R) := zH (by rw [← hI.out.2.2.1, STP.out, STQ.out, hin]; simp)
              have HGD := zH (insN_good hI.out.2.1 (hI.out.2.1 k p HY.out.2.1 hpk) hin)
              clear hpk hpq STP STQ hin
              go_wp2_with (first
                | (go_at_call 22; refine (PLC.out _).mono ?_; rintro e w5 ⟨rfl, hb⟩; have hb5 : Below wr.heap.size wr w5 := (zB.alloc zL _).trans (hb.mono (by simp)); have B5 : Blk w5 wr.heap.size 42 #[.int .i64 y.op, .int .i64 y.arg, .int .i64 y.int, .string y.text] := (Blk.new wr _ _).below hb (by simp); obtain ⟨x0, x1, x2, x3⟩ := B5.k4; have HB5 := zH hb5; clear hb hb5 B5)
                | (go_at_call 23; go_must (refine (ins_any y (plain_ops HPL.out).1 (plain_ops HPL.out).2.1 (INQ.out _ HB5.out)).mono ?_; rintro e w6 ⟨he, hg6, hp6⟩; rw [HIN.out] at he hp6; simp only [Option.isSome_some] at he; subst he; have HG6 := zH (And.intro hg6 hp6); clear hg6 hp6))
                | fail)
              go_roundw
              case rel =>
                have L5 := hI.out.2.2.2.2.1.trans (HB5.out.mono hI.out.2.2.2.2.1.size)
                exact ⟨k + 1, by omega, by go_num, lq, zH ⟨HGD.out.2.trans hI.out.1, HGD.out.1, HGO.out, HG6.out.2 lq rfl, below_grown L5 (by have := L5.size; omega) HG6.out.1 (Nat.le_of_lt hgw), ((hI.out.2.2.2.2.2.1.below HB5.out hww').grown HG6.out.1 (fun e => by injection e; omega)), ((hI.out.2.2.2.2.2.2.below HB5.out hkk').grown HG6.out.1 (fun e => by injection e; omega))⟩⟩
              case measure => simp [intOf]; omega
      · obtain rfl : k = n := by omega
        clear hlt
        have hE : endN l k = R := by rw [← hI.out.2.2.1, Nat.sub_self]; rfl
        have HE := zH hE
        have HP := zH hp
        clear hE hp er
        obtain ⟨pk, hpk⟩ : ∃ q, p.known = q := ⟨_, rfl⟩
        rw [hpk] at e0
        have HPK := zH hpk
        clear hpk
        cases pk with
        | false =>
          have HRK : Hid (R = (k, 110)) := zH (by rw [← HE.out, endN_no HP.out (by rw [HPK.out]; simp)])
          go_wp2_with fail
          go_ret2
          exact ⟨by rw [HRK.out]; rfl, hI.out.2.2.2.2.1.alloc hI.out.2.2.2.2.1.size _⟩
        | true =>
          by_cases hh : p.height = 1
          · have hh1 : (p.height != 1) = false := by simpa using hh
            have HH := zH hh
            rcases hlp : p.loops with _ | ⟨q0, qs⟩
            · have hz : p.loops.length = 0 := by rw [hlp]; rfl
              rw [hz] at e2
              have HRK : Hid (R = (0, 0)) := zH (by rw [← HE.out, endN_yes HP.out HPK.out hh hlp])
              clear hh hlp hz
              go_wp2_with fail
              go_ret2
              exact ⟨by rw [HRK.out]; rfl, hI.out.2.2.2.2.1.alloc hI.out.2.2.2.2.1.size _⟩
            · obtain ⟨m, hz⟩ : ∃ m, p.loops.length = m + 1 := ⟨qs.length, by rw [hlp]; rfl⟩
              rw [hz] at e2
              have hm2 : (0 : Int) < ((m + 1 : Nat) : Int) := by omega
              have hm4 : (0 : Int) < (m : Int) + 1 := by omega
              have HRK : Hid (R = (k, 110)) := zH (by rw [← HE.out, endN_no HP.out (by rw [hlp]; simp)])
              clear hh hlp hz
              go_wp2_with fail
              go_ret2
              exact ⟨by rw [HRK.out]; rfl, hI.out.2.2.2.2.1.alloc hI.out.2.2.2.2.1.size _⟩
          · have hh1 : (p.height != 1) = true := by simpa using hh
            have HRK : Hid (R = (k, 110)) := zH (by rw [← HE.out, endN_no HP.out (by simp [hh])])
            clear hh
            go_wp2_with fail
            go_ret2
            exact ⟨by rw [HRK.out]; rfl, hI.out.2.2.2.2.1.alloc hI.out.2.2.2.2.1.size _⟩
end Go.Proofs.YtdkoafmgenbkbaaGreatDoor
namespace Go.Proofs.YtdkoafmgenbkbaaGreatDoor
open Go.RowKit
def strLen : Value → Nat
  | .string s => s.size
  | _ => 0
def ParseK (w : World) (l : List Nat) (e : Ending) (w' : World) : Prop :=
  ∃ v : Value, e = .returned (.tuple #[.agg #[v], .int .i64 ((parseC l).2.1 : Int), .int .i64 ((parseC l).2.2 : Int)]) ∧ Own1 w' w.heap.size 42 4 Ins.Is v (parseC l).1 ∧ Below w.heap.size w w'
theorem Blk.drw {w : World} {g : Nat} {t : TypeId} {cs : Array Value} (h : Blk w g t cs) : Blk w.drew g t cs := h
theorem lines_step {l : List Nat} (out : List Ins) (hl : l ≠ []) : linesN l.length l out =
    match readN (aheadC 10 l) with
    | some x => if l.contains 10 = true then linesN (behindC 10 l).length (behindC 10 l) (out ++ [x]) else .inr out.length
    | none => .inr out.length := by
  have h0 : 0 < l.length := List.length_pos_iff.2 hl
  obtain ⟨f, hf⟩ : ∃ f, l.length = f + 1 := ⟨l.length - 1, by omega⟩
  rw [hf, linesN]
  rw [if_neg hl]
  have := (ahead_len 10 l).2.2 hl
  cases readN (aheadC 10 l) with
  | none => rfl
  | some x =>
    show (if _ then _ else _) = (if _ then _ else _)
    rw [lines_more f (behindC 10 l).length (behindC 10 l) _ (by omega) zL]
theorem txt_nil {l : List Nat} (h : l ≠ []) : (txt l).toList ≠ [] := by
  intro e
  have e2 : (txt l).toList = (⟨#[]⟩ : ByteArray).toList := e.trans (by rw [ByteArray.toList_eq])
  have := (toList_inj _ _).1 e2
  have h3 := txt_size l
  rw [this] at h3
  exact h (List.eq_nil_of_length_eq_zero h3.symm)
theorem Own1.keepB {α : Type} {w w' : World} {base size : Nat} {e : TypeId} {R : List Value → α → Prop} {v : Value} {l : List α} (h : Own1 w base e size R v l) (hb : Below w.heap.size w w') : Own1 w' base e size R v l := h.below hb zL
theorem parse_any (s : ByteArray) (hs : s.size ≤ maxLen) (w : World) (hw : Lays w) : Calls Tryz.prog 10 #[.string s] w (ParseK w (bs s)) := by
  obtain ⟨L, hL⟩ : ∃ x, bs s = x := ⟨_, rfl⟩
  have hlen : s.size = L.length := by rw [← hL, bs_len]
  have hLb : Bytes L := by rw [← hL]; exact bs_bytes s
  obtain rfl : s = txt L := by rw [← hL, txt_bs]
  rw [hL]
  have HW := zH hw
  obtain ⟨R, hR⟩ : ∃ x, parseC L = x := ⟨_, rfl⟩
  have HR := zH hR
  have HLB := zH hLb
  clear hL hR hw hLb
  unfold ParseK
  rw [HR.out]
  by_cases hbig : 1048576 < L.length
  · have hb1 : (1048576 : Int) < ((txt L).size : Int) := by omega
    have hv : R = ([], 0, 3) := by rw [← HR.out]; unfold parseC; rw [if_pos hbig]
    have HV := zH hv
    clear hv hlen hbig hs
    go_enter Tryz.func10, Tryz.ntmps10
    go_wp2_with fail
    have B0 := Blk.new w 24 #[.slice none 0 0]
    have q0 := B0.cell (i := 0) rfl
    refine bodyPost_ret (v := .tuple #[.agg #[.slice none 0 0], .int .i64 0, .int .i64 3]) (by simp [results, Tryz.results10, go_sem, q0]) rfl ?_
    rw [HV.out]
    exact ⟨_, rfl, Own1.nil_ _ _ _ _ _, zB.alloc zL _⟩
  · have hb1 : ¬ (1048576 : Int) < ((txt L).size : Int) := by omega
    have hb2 : L.length ≤ 1048576 := by omega
    have hv : R = match linesN L.length L [] with | .inr k => ([], k, 110) | .inl c => if (rightC c).2 ≠ 0 then ([], (rightC c).1, (rightC c).2) else (c, 0, 0) := by rw [← HR.out]; unfold parseC; rw [if_neg hbig]; rfl
    have HV := zH hv
    obtain ⟨jI, hi, hz, hsz, hby⟩ := info_parts info_Ins
    have I := zH (And.intro hi (And.intro hz (And.intro hsz hby)))
    have HB2 := zH hb2
    clear hv hbig hs hi hz hsz hby hlen hb2
    go_enter Tryz.func10, Tryz.ntmps10
    go_wp2_with fail
    go_loopw [0, 3, 4, 6, 7, 8, 9, 10] (fun x _ _ _ _ _ _ _ wr => ∃ (a : Option Addr) (n c : Nat) (rem : List Nat) (cl : List Ins), x = .string (txt rem) ∧ Hid (Bytes rem ∧ cl.length + rem.length ≤ L.length ∧ linesN L.length L [] = linesN rem.length rem cl ∧ n = cl.length) ∧ Hid (Own1 wr (w.heap.size + 2) 42 4 Ins.Is (.slice a n c) cl ∧ Blk wr (w.heap.size + 1) 24 #[.slice a n c] ∧ Blk wr w.heap.size 24 #[.slice none 0 0] ∧ Below w.heap.size w wr)) (fun x _ _ _ _ _ _ _ _ => strLen x)
    case atStart =>
      exact ⟨none, 0, 0, L, [], rfl, zH ⟨HLB.out, by simp, rfl, rfl⟩, zH ⟨Own1.nil_ _ _ _ _ _, Blk.new_ (by simp) _ _, (Blk.new w _ _).alloc _, (zB.alloc zL _).alloc (by simp) _⟩⟩
    case round =>
      obtain ⟨a, n, c, rem, cl, rfl, hI, hB⟩ := hrel
      have v0 : wr.cell? ⟨w.heap.size + 1, 0, none⟩ = some (.slice a n c) := hB.out.2.1.cell rfl
      have r0 : wr.cell? ⟨w.heap.size, 0, none⟩ = some (.slice none 0 0) := hB.out.2.2.1.cell rfl
      have f0 := hB.out.2.2.1.frozen 0
      have s0 : w.heap.size + 1 < wr.heap.size := hB.out.2.1.lt
      have s00 : w.heap.size < wr.heap.size := by omega
      by_cases hrem : rem = []
      · subst hrem
        rw [show txt [] = (⟨#[]⟩ : ByteArray) from rfl]
        have RC := zH (right_code wr wr (hB.out.1.read (by decide)) zB)
        obtain ⟨e1, he1⟩ : ∃ x, (rightC cl).1 = x := ⟨_, rfl⟩
        obtain ⟨e2, he2⟩ : ∃ x, (rightC cl).2 = x := ⟨_, rfl⟩
        rw [he1, he2] at RC
        have HV2 : Hid (R = if e2 ≠ 0 then ([], e1, e2) else (cl, 0, 0)) := zH (by rw [HV.out, hI.out.2.2.1, ← he1, ← he2]; rfl)
        clear he1 he2 HV
        by_cases hz : e2 = 0
        · have hz1 : ((e2 : Int) != 0) = false := by simp [hz]
          have hz2 : ((e2 : Int) == 0) = true := by simp [hz]
          have HZ := zH hz
          clear hz
          go_wp2_with (first
            | (go_at_call 9; refine (RC.out).mono ?_; rintro e w4 ⟨rfl, hb⟩; have K4 := zH (And.intro (hB.out.1.keepB hb) (And.intro (hB.out.2.1.below hb hB.out.2.1.lt) (And.intro (hB.out.2.2.1.below hb hB.out.2.2.1.lt) (hB.out.2.2.2.trans (hb.mono hB.out.2.2.2.size))))); have v4 : w4.cell? ⟨w.heap.size + 1, 0, none⟩ = some (.slice a n c) := K4.out.2.1.cell rfl; have r4 : w4.cell? ⟨w.heap.size, 0, none⟩ = some (.slice none 0 0) := K4.out.2.2.1.cell rfl; have f4 := K4.out.2.2.1.frozen 0; clear hb)
            | fail)
          generalize hz : World.setCell _ _ _ = wz
          have BZ : Blk wz w.heap.size 24 #[.slice a n c] := by rw [← hz]; have h := K4.out.2.2.1.set_ 0 (.slice a n c); simpa using h
          have LZ : Below w.heap.size w wz := by rw [← hz]; exact K4.out.2.2.2.setCell (p := ⟨w.heap.size, 0, none⟩) zL _
          have OZ : Own1 wz (w.heap.size + 2) 42 4 Ins.Is (.slice a n c) cl := by rw [← hz]; exact K4.out.1.setFar (p := ⟨w.heap.size, 0, none⟩) (by show w.heap.size < w.heap.size + 2; omega) _
          clear hz
          have q0 := BZ.cell (i := 0) rfl
          refine bodyPost_ret (v := .tuple #[.agg #[.slice a n c], .int .i64 0, .int .i64 0]) (by simp [results, Tryz.results10, go_sem, q0]) rfl ?_
          have hv := HV2.out
          rw [if_neg (by have := HZ.out; omega)] at hv
          rw [hv]
          exact ⟨_, rfl, OZ.mono (by omega), LZ⟩
        · have hz1 : ((e2 : Int) != 0) = true := by simpa using hz
          have hz2 : ((e2 : Int) == 0) = false := by simpa using hz
          have HZ := zH hz
          clear hz
          go_wp2_with (first
            | (go_at_call 9; refine (RC.out).mono ?_; rintro e w4 ⟨rfl, hb⟩; have K4 := zH (And.intro (hB.out.1.keepB hb) (And.intro (hB.out.2.1.below hb hB.out.2.1.lt) (And.intro (hB.out.2.2.1.below hb hB.out.2.2.1.lt) (hB.out.2.2.2.trans (hb.mono hB.out.2.2.2.size))))); have v4 : w4.cell? ⟨w.heap.size + 1, 0, none⟩ = some (.slice a n c) := K4.out.2.1.cell rfl; have r4 : w4.cell? ⟨w.heap.size, 0, none⟩ = some (.slice none 0 0) := K4.out.2.2.1.cell rfl; have f4 := K4.out.2.2.1.frozen 0; clear hb)
            | fail)
          have hv := HV2.out
          rw [if_pos HZ.out] at hv
          generalize hz : World.setCell _ _ _ = wz
          have BZ : Blk wz w.heap.size 24 #[.slice none 0 0] := by rw [← hz]; have h := K4.out.2.2.1.set_ 0 (.slice none 0 0); simpa using h
          have LZ : Below w.heap.size w wz := by rw [← hz]; exact K4.out.2.2.2.setCell (p := ⟨w.heap.size, 0, none⟩) zL _
          clear hz
          have q0 := BZ.cell (i := 0) rfl
          refine bodyPost_ret (v := .tuple #[.agg #[.slice none 0 0], .int .i64 (e1 : Int), .int .i64 (e2 : Int)]) (by simp [results, Tryz.results10, go_sem, q0]) rfl ?_
          rw [hv]
          exact ⟨_, rfl, Own1.nil_ _ _ _ _ _, LZ⟩
      · have tx := txt_nil hrem
        have tx1 : (!(txt rem).toList.isEmpty) = true := by simpa using tx
        have tx2 : ((txt rem).toList == []) = false := by simpa using tx
        have tx3 : ((txt rem).toList != []) = true := by simpa using tx
        have tx4 : (txt rem).toList.isEmpty = false := by simpa using tx
        have HST := zH (lines_step cl hrem)
        obtain ⟨ha1, hb1, hb2⟩ := ahead_len 10 rem
        have HLT := zH (hb2 hrem)
        have CUT : Hid (∀ W, Below w.heap.size w W → Calls Tryz.prog 24 #[.string (txt rem), .string ⟨#[10]⟩] W fun e w' => e = .returned (.tuple #[.string (txt (aheadC 10 rem)), .string (txt (behindC 10 rem)), .bool (rem.contains 10)]) ∧ Below W.heap.size W w') := zH (fun W hW => by
          have h := cut_any (txt rem) 10 (by rw [txt_size]; have := hI.out.2.1; have := HB2.out; omega) W (HW.out.mx.below hW)
          rw [bs_txt hI.out.1] at h
          exact h)
        have LN : Hid (∀ W, Below w.heap.size w W → Calls Tryz.prog 25 #[.string (txt (aheadC 10 rem))] W (LineK W (aheadC 10 rem))) := zH (fun W hW => line_any (aheadC 10 rem) (ahead_bytes hI.out.1).1 (by have := hI.out.2.1; have := HB2.out; omega) W (HW.out.below hW))
        clear hrem ha1 hb1 hb2 tx
        rcases hct : rem.contains 10 with _ | _
        · rw [hct] at CUT HST
          clear hct
          go_wp2_with (first
            | (go_at_call 24; go_must (refine (CUT.out _ hB.out.2.2.2).mono ?_); rintro e w2 ⟨rfl, hb⟩; have K2 := zH (And.intro (hB.out.1.keepB hb) (And.intro (hB.out.2.1.below hb hB.out.2.1.lt) (And.intro (hB.out.2.2.1.below hb hB.out.2.2.1.lt) (hB.out.2.2.2.trans (hb.mono hB.out.2.2.2.size))))); clear hb)
            | (go_at_call 25; go_must (refine (LN.out _ K2.out.2.2.2).mono ?_); go_must (rintro e w3 ⟨op, arg, int, t, b, rfl, hok, hb, hyes, hno⟩); go_must (have K3 := zH (And.intro (K2.out.1.keepB hb) (And.intro (K2.out.2.1.below hb K2.out.2.1.lt) (And.intro (K2.out.2.2.1.below hb K2.out.2.2.1.lt) (K2.out.2.2.2.trans (hb.mono K2.out.2.2.2.size)))))); go_must (have HOK := zH hok); go_must (have HYES := zH hyes); go_must (have HNO := zH hno); go_must (have v3 : w3.cell? ⟨w.heap.size + 1, 0, none⟩ = some (.slice a n c) := K3.out.2.1.cell rfl); go_must (have r3 : w3.cell? ⟨w.heap.size, 0, none⟩ = some (.slice none 0 0) := K3.out.2.2.1.cell rfl); go_must (have f3 := K3.out.2.2.1.frozen 0); go_must (have g3 := K3.out.2.1.frozen 0); go_must (have s3 : w.heap.size + 1 < w3.heap.size := K3.out.2.1.lt); go_must (have s30 : w.heap.size < w3.heap.size := by omega); go_must (clear hb hok hyes hno); cases b)
            | fail)
          all_goals
            have hv : R = ([], cl.length, 110) := by
              rw [HV.out, hI.out.2.2.1, HST.out]
              first
                | (rw [HNO.out (by trivial)])
                | (rw [HYES.out (by trivial)]; rfl)
            have hnl : n = cl.length := hI.out.2.2.2
            have HVR := zH hv
            have HNL := zH hnl
            clear hv hnl
            go_region
            all_goals
              go_wp2_with fail
              have hv := HVR.out
              rw [← HNL.out] at hv
              generalize hz : World.drew _ = wz
              have BZ : Blk wz w.heap.size 24 #[.slice none 0 0] := by rw [← hz]; have h := K3.out.2.2.1.set_ 0 (.slice none 0 0); exact Blk.drw (Blk.alloc (by simpa using h) _)
              have LZ : Below w.heap.size w wz := by rw [← hz]; exact ((K3.out.2.2.2.setCell (p := ⟨w.heap.size, 0, none⟩) zL _).alloc (by have := K3.out.2.2.2.size; simpa using this) _).drew
              clear hz
              have q0 := BZ.cell (i := 0) rfl
              refine bodyPost_ret (v := .tuple #[.agg #[.slice none 0 0], .int .i64 (n : Int), .int .i64 110]) (by simp [results, Tryz.results10, go_sem, q0]) rfl ?_
              rw [hv]
              exact ⟨_, rfl, Own1.nil_ _ _ _ _ _, LZ⟩
        · rw [hct] at CUT HST
          clear hct
          go_wp2_with (first
            | (go_at_call 24; go_must (refine (CUT.out _ hB.out.2.2.2).mono ?_); rintro e w2 ⟨rfl, hb⟩; have K2 := zH (And.intro (hB.out.1.keepB hb) (And.intro (hB.out.2.1.below hb hB.out.2.1.lt) (And.intro (hB.out.2.2.1.below hb hB.out.2.2.1.lt) (hB.out.2.2.2.trans (hb.mono hB.out.2.2.2.size))))); clear hb)
            | (go_at_call 25; go_must (refine (LN.out _ K2.out.2.2.2).mono ?_); go_must (rintro e w3 ⟨op, arg, int, t, b, rfl, hok, hb, hyes, hno⟩); go_must (have K3 := zH (And.intro (K2.out.1.keepB hb) (And.intro (K2.out.2.1.below hb K2.out.2.1.lt) (And.intro (K2.out.2.2.1.below hb K2.out.2.2.1.lt) (K2.out.2.2.2.trans (hb.mono K2.out.2.2.2.size)))))); go_must (have HOK := zH hok); go_must (have HYES := zH hyes); go_must (have HNO := zH hno); go_must (have v3 : w3.cell? ⟨w.heap.size + 1, 0, none⟩ = some (.slice a n c) := K3.out.2.1.cell rfl); go_must (have r3 : w3.cell? ⟨w.heap.size, 0, none⟩ = some (.slice none 0 0) := K3.out.2.2.1.cell rfl); go_must (have f3 := K3.out.2.2.1.frozen 0); go_must (have g3 := K3.out.2.1.frozen 0); go_must (have s3 : w.heap.size + 1 < w3.heap.size := K3.out.2.1.lt); go_must (have s30 : w.heap.size < w3.heap.size := by omega); go_must (clear hb hok hyes hno); cases b)
            | (at_builtin
               go_must (refine wpList_append_list rfl (.tmp 41) (.tmp 43) _ (by rfl) (w.heap.size + 2) (w3.heap.size + 1 + 1) 42 jI _ 4 40 Tryz.underlying22 I.out.1 I.out.2.1 I.out.2.2.1 I.out.2.2.2 rfl (by omega) (R := Ins.Is) (l := cl) (m := [⟨op, arg, int, t⟩]) (.slice a n c) (by rfl) (by exact ((K3.out.1.alloc (.cells #[.int .i64 op, .int .i64 arg, .int .i64 int, .string t] 42)).alloc (.cells #[.int .i64 op, .int .i64 arg, .int .i64 int, .string t] 42))) (some ⟨w3.heap.size + 1, 0, none⟩) 1 1 (by rfl) (by have := SlR.new1 (w := w3.alloc (.cells #[.int .i64 op, .int .i64 arg, .int .i64 int, .string t] 42)) (e := 42) (g := w3.heap.size + 1) (by simp) (x := [.int .i64 op, .int .i64 arg, .int .i64 int, .string t]) rfl (R := Ins.Is) (y := ⟨op, arg, int, t⟩) ⟨rfl, HOK.out⟩; simpa using this) (n + 1) (by rw [hI.out.2.2.2]) Ins.Is.one (by have := hI.out.2.1; have := HB2.out; unfold maxLen; omega) (by have := hI.out.2.1; have := HB2.out; omega) (by simp; omega) ?_)
               intro a5 c5 w5 hown hgr
               have hne : ∀ k, k < w.heap.size + 2 → some k ≠ (Value.slice a n c).ownBlock := fun k hk e => by have := (K3.out.1.block k e.symm).1; omega
               have K5 : Hid (Own1 w5 (w.heap.size + 2) 42 4 Ins.Is (.slice a5 (n + 1) c5) (cl ++ [⟨op, arg, int, t⟩]) ∧ Blk w5 (w.heap.size + 1) 24 #[.slice a n c] ∧ Blk w5 w.heap.size 24 #[.slice none 0 0] ∧ Below w.heap.size w w5) := zH ⟨hown, ((K3.out.2.1.alloc _).alloc _).grown hgr (hne _ (by omega)), ((K3.out.2.2.1.alloc _).alloc _).grown hgr (hne _ (by omega)), ((K3.out.2.2.2.alloc K3.out.2.2.2.size _).alloc (by have := K3.out.2.2.2.size; simp; omega) _).grown hgr (by have := K3.out.2.2.2.size; simp; omega) (fun g hg => by have := (K3.out.1.block g hg).1; omega)⟩
               have v5 : w5.cell? ⟨w.heap.size + 1, 0, none⟩ = some (.slice a n c) := K5.out.2.1.cell rfl
               have g5 := K5.out.2.1.frozen 0
               clear hown hgr hne)
            | fail)
          · have hv : R = ([], cl.length, 110) := by rw [HV.out, hI.out.2.2.1, HST.out, HNO.out (by trivial)]
            have hnl : n = cl.length := hI.out.2.2.2
            have HVR := zH hv
            have HNL := zH hnl
            clear hv hnl
            go_region
            all_goals
              go_wp2_with fail
              have hv := HVR.out
              rw [← HNL.out] at hv
              generalize hz : World.drew _ = wz
              have BZ : Blk wz w.heap.size 24 #[.slice none 0 0] := by rw [← hz]; have h := K3.out.2.2.1.set_ 0 (.slice none 0 0); exact Blk.drw (Blk.alloc (by simpa using h) _)
              have LZ : Below w.heap.size w wz := by rw [← hz]; exact ((K3.out.2.2.2.setCell (p := ⟨w.heap.size, 0, none⟩) zL _).alloc (by have := K3.out.2.2.2.size; simpa using this) _).drew
              clear hz
              have q0 := BZ.cell (i := 0) rfl
              refine bodyPost_ret (v := .tuple #[.agg #[.slice none 0 0], .int .i64 (n : Int), .int .i64 110]) (by simp [results, Tryz.results10, go_sem, q0]) rfl ?_
              rw [hv]
              exact ⟨_, rfl, Own1.nil_ _ _ _ _ _, LZ⟩
          · go_roundw
            case rel =>
              refine ⟨a5, n + 1, c5, behindC 10 rem, cl ++ [⟨op, arg, int, t⟩], rfl, zH ⟨(ahead_bytes hI.out.1).2, ?_, ?_, ?_⟩, zH ⟨?_, ?_, ?_, ?_⟩⟩
              · have := hI.out.2.1; have := HLT.out; simp; omega
              · rw [hI.out.2.2.1, HST.out, HYES.out (by trivial)]; rfl
              · rw [List.length_append, hI.out.2.2.2]; rfl
              · exact K5.out.1.setFar (p := ⟨w.heap.size + 1, 0, none⟩) (by show w.heap.size + 1 < w.heap.size + 2; omega) _
              · have h := K5.out.2.1.set_ 0 (.slice a5 (n + 1) c5); simpa using h
              · exact K5.out.2.2.1.far (p := ⟨w.heap.size + 1, 0, none⟩) (by show w.heap.size ≠ w.heap.size + 1; omega) _
              · exact K5.out.2.2.2.setCell (p := ⟨w.heap.size + 1, 0, none⟩) (by show w.heap.size ≤ w.heap.size + 1; omega) _
            case measure => simp only [strLen, txt_size]; exact HLT.out
end Go.Proofs.YtdkoafmgenbkbaaGreatDoor
namespace Go.Proofs.YtdkoafmgenbkbaaGreatDoor
open Go.RowKit
theorem goN_plain {c : List Ins} : ∀ (m k : Nat) (l : List Pl), (goN c m k l).2 = 0 → ∀ i x, k ≤ i → i < k + m → c[i]? = some x → plainN x = true := by
  intro m
  induction m with
  | zero => intro k l h i x h1 h2; omega
  | succ m ih =>
    intro k l h i x h1 h2 hx
    unfold goN at h
    cases hs : stepN c l k with
    | none => rw [hs] at h; simp at h
    | some l' =>
      rw [hs] at h
      by_cases hi : i = k
      · subst hi
        unfold stepN at hs
        split at hs
        · rename_i p y e1 e2
          rw [hx] at e2
          injection e2 with e2
          subst e2
          split at hs
          · rename_i hh; exact hh.2
          · cases hs
        · cases hs
      · exact ih (k + 1) l' h i x (by omega) (by omega) hx
theorem right_plain {c : List Ins} (h : (rightC c).2 = 0) {i : Nat} {x : Ins} (hx : c[i]? = some x) : plainN x = true := by
  unfold rightC at h
  split at h
  · cases h
  · exact goN_plain _ _ _ h i x (Nat.zero_le _) (by have := (List.getElem?_eq_some_iff.1 hx).1; omega) hx
theorem line_small {x : Ins} (hx : x.ok) (h : plainN x = true) : (lineC x).length ≤ 17000 ∧ Bytes (lineC x) := by
  have h1 := word_small x.op
  have h2 := show_small hx.2.1
  have h3 := show_small hx.2.2.1
  have ht3 : hasN x.op = 3 → x.text.size ≤ 4096 := by
    intro e
    unfold plainN at h
    simp only [Bool.and_eq_true, e, if_pos, decide_eq_true_eq] at h
    exact h.2
  have ht4 : hasN x.op = 4 → x.text.size ≤ 32 := by
    intro e
    unfold plainN at h
    simp [e] at h
    have := name_small h.2
    rwa [bs_len] at this
  have hb : ∀ v : Int, Bytes (showN v) := fun v => by
    intro n hn
    unfold showN at hn
    split at hn
    · rcases List.mem_cons.1 hn with rfl | hn
      · omega
      · have := dec_digits _ n hn; omega
    · have := dec_digits _ n hn; omega
  have h32 : ∀ l : List Nat, Bytes l → Bytes (32 :: l) := fun l hl n hn => by
    rcases List.mem_cons.1 hn with rfl | hn
    · omega
    · exact hl n hn
  unfold lineC
  rw [List.length_append, bs_len]
  rcases hasN_le x.op with e | e | e | e | e | e
  all_goals rw [e]
  · exact ⟨by simp; omega, bytes_app (bs_bytes _) bytes_nil⟩
  · exact ⟨by simp; omega, bytes_app (bs_bytes _) (h32 _ (hb _))⟩
  · exact ⟨by simp; omega, bytes_app (bs_bytes _) (h32 _ (hb _))⟩
  · have h5 := flat_len (bs x.text)
    have h6 := ht3 e
    rw [bs_len] at h5
    refine ⟨?_, bytes_app (bs_bytes _) (h32 _ (quote_bytes (bs_bytes _)))⟩
    unfold quoteN
    simp only [List.length_cons, List.length_append, List.length_nil]
    omega
  · have h6 := ht4 e
    exact ⟨by simp [bs_len]; omega, bytes_app (bs_bytes _) (h32 _ (bs_bytes _))⟩
  · exact ⟨by simp; omega, bytes_app (bs_bytes _) (h32 _ (hb _))⟩
theorem text_take {c : List Ins} {k : Nat} {x : Ins} (h : c[k]? = some x) : textC (c.take (k + 1)) = textC (c.take k) ++ (lineC x ++ [10]) := by
  have hk := (List.getElem?_eq_some_iff.1 h).1
  unfold textC
  rw [List.take_add_one, h, Option.toList_some, List.flatMap_append]
  simp
theorem text_ge (c : List Ins) (k : Nat) : (textC (c.take k)).length ≤ (textC c).length := by
  have : textC c = textC (c.take k) ++ textC (c.drop k) := by
    unfold textC
    rw [← List.flatMap_append, List.take_append_drop]
  rw [this, List.length_append]
  omega
theorem print_any {cl : List Ins} {v : Value} (w w0 : World) (hs : SlR w0 w0.heap.size 4 Ins.Is v cl) (hw : Below w0.heap.size w0 w) (hwd : WordsIs w) (hpw : Pow w) :
    Calls Tryz.prog 8 #[.agg #[v]] w fun e w' => e = .returned (.tuple #[.string (txt (printC cl).1), .int .i64 ((printC cl).2 : Int)]) ∧ Below w.heap.size w w' := by
  obtain ⟨a, c, rfl⟩ : ∃ a c, v = .slice a cl.length c := by obtain ⟨a, c, h, _⟩ := hs.form; exact ⟨a, c, h⟩
  have hn : cl.length ≤ 9223372036854775807 := by have := hs.caps; unfold maxLen at this; omega
  have RC := zH (fun W (hW : Below w.heap.size w W) => right_code W w0 hs (hw.trans (hW.mono hw.size)))
  obtain ⟨n, hlen⟩ : ∃ n, cl.length = n := ⟨_, rfl⟩
  rw [hlen] at hs hn RC ⊢
  have Hlen := zH hlen
  have Hs := zH hs
  have Hw := zH hw
  have HWD := zH hwd
  have HPW := zH hpw
  clear hs hlen hw hwd hpw
  obtain ⟨R, hR⟩ : ∃ R, printC cl = R := ⟨_, rfl⟩
  rw [hR]
  have HR := zH hR
  clear hR
  obtain ⟨e1, he1⟩ : ∃ x, (rightC cl).1 = x := ⟨_, rfl⟩
  obtain ⟨e2, he2⟩ : ∃ x, (rightC cl).2 = x := ⟨_, rfl⟩
  rw [he1, he2] at RC
  have HE := zH he2
  clear he1 he2
  have BX : Hid (Blk (w.alloc (.cells #[.slice a n c] 24)) w.heap.size 24 #[.slice a n c]) := zH (Blk.new w _ _)
  by_cases hz : e2 = 0
  · subst hz
    have hall : ∀ (i : Nat) (x : Ins), cl[i]? = some x → plainN x = true := fun i x hx => right_plain HE.out hx
    have HALL := zH hall
    have hno : printC cl = if 1048576 < (textC cl).length then ([], 3) else (textC cl, 0) := by unfold printC; rw [if_neg (by rw [HE.out]; simp)]
    rw [HR.out] at hno
    have HNO := zH hno
    clear hall hno
    go_enter Tryz.func8, Tryz.ntmps8
    go_wp2_with (first
      | (go_at_call 9; refine (RC.out _ (zB.alloc zL _)).mono ?_; rintro e w1 ⟨rfl, hb⟩; have H1 : Hid (Below w.heap.size w w1) := zH ((zB.alloc zL _).trans (hb.mono (by simp))); have B1 := BX.out.below hb BX.out.lt; have c0 : w1.cell? ⟨w.heap.size, 0, none⟩ = some (.slice a n c) := B1.cell rfl; have hl1 := B1.lt; clear hb B1)
      | fail)
    go_loopw [8, 20] (fun _ j wr => ∃ k : Nat, k ≤ n ∧ j = .int .i64 (k : Int) ∧ (textC (cl.take k)).length ≤ 1048576 ∧ Hid (BuiltSt wr w1.heap.size w1.heap.size (textC (cl.take k)) ∧ Below w.heap.size w wr) ∧ w1.heap.size < wr.heap.size) (fun _ j _ => n - (intOf j).toNat)
    case atStart => exact ⟨0, Nat.zero_le _, rfl, by simp [textC], zH ⟨BuiltSt.new w1, H1.out.alloc H1.out.size _⟩, by simp⟩
    case round =>
      obtain ⟨k, hk, rfl, ho, hB, hwz⟩ := hrel
      have b1 : (0 : Int) ≤ (k : Int) := Int.natCast_nonneg _
      have hbz := H1.out.size
      have hbz2 := hB.out.2.size
      by_cases hlt : k < n
      · obtain ⟨y, hd⟩ := get_some Hlen.out hlt
        have hw1 := Hw.out.trans (hB.out.2.mono Hw.out.size)
        obtain ⟨b, off, x, rfl, hbB, hxl, ⟨rfl, hok⟩, hx⟩ := (Hs.out.below hw1).at_ hd
        have h0 := hx 0 _ rfl
        have h1 := hx 1 _ rfl
        have h2 := hx 2 _ rfl
        have h3 := hx 3 _ rfl
        simp only [Nat.add_zero] at h0
        have hpl := HALL.out k y hd
        have SH : Hid (∀ W, Below w.heap.size w W → Calls Tryz.prog 18 #[.agg #[.int .i64 y.op, .int .i64 y.arg, .int .i64 y.int, .string y.text]] W fun e w' => e = .returned (.string (txt (lineC y ++ [10]))) ∧ Below W.heap.size W w') := zH (fun W hW => shown_any y hok hpl W (HWD.out.below hW) (HPW.out.below hW))
        have Hls := zH (line_small hok hpl)
        have HT1 : Hid (textC (cl.take k) ++ (lineC y ++ [10]) = textC (cl.take (k + 1))) := zH (text_take hd).symm
        have hlen1 : (textC (cl.take (k + 1))).length ≤ 1048576 + 17001 := by rw [← HT1.out, List.length_append, List.length_append]; have := Hls.out.1; simp; omega
        have hge := text_ge cl (k + 1)
        obtain ⟨T, hT⟩ : ∃ T, textC (cl.take (k + 1)) = T := ⟨_, rfl⟩
        rw [hT] at HT1 hlen1 hge
        have HT := zH hT
        clear hd hx hxl hw1 hok hpl hT
        by_cases hlong : 1048576 < T.length
        · have dl : decide (1048576 < (T.length : Int)) = true := by simp only [decide_eq_true_eq]; omega
          have HV : Hid (R = ([], 3)) := zH (by rw [HNO.out, if_pos (by omega)])
          clear hge
          go_wp2_with (first
              | (go_at_call 18
                 refine (SH.out _ (hB.out.2.alloc hbz2 _)).mono ?_
                 rintro e w3 ⟨rfl, b3⟩
                 have S3 := zH (And.intro ((hB.out.1.keep (zB.alloc zL _)).keep b3) ((hB.out.2.alloc hbz2 _).trans (b3.mono (Nat.le_trans hbz2 (by simp)))))
                 have z3 : w1.heap.size ≤ w3.heap.size := Nat.le_trans (Nat.le_trans (Nat.le_of_lt hwz) (by simp)) b3.size
                 clear b3)
              | (go_at_call 17
                 refine (write_text _ S3.out.1 (by rw [txt_size, List.length_append]; simp; have := Hls.out.1; omega) z3).mono ?_
                 rintro e w4 ⟨rfl, s4, b4, _⟩
                 rw [bs_txt (bytes_app Hls.out.2 (fun n hn => by simp at hn; omega)), HT1.out] at s4
                 have S4 := zH (And.intro s4 (S3.out.2.trans (b4.mono hbz)))
                 have z4 : w1.heap.size < w4.heap.size := by obtain ⟨_, _, _, _, hbk, _⟩ := s4; exact hbk.lt
                 clear s4 b4)
              | (go_at_call 19
                 refine (built_len S4.out.1).mono ?_
                 rintro e w5 ⟨rfl, rfl⟩)
              | fail)
          go_ret2
          exact ⟨by rw [HV.out]; rfl, S4.out.2⟩
        · have dl : decide (1048576 < (T.length : Int)) = false := by simp only [decide_eq_false_iff_not]; omega
          clear hge
          go_wp2_with (first
              | (go_at_call 18
                 refine (SH.out _ (hB.out.2.alloc hbz2 _)).mono ?_
                 rintro e w3 ⟨rfl, b3⟩
                 have S3 := zH (And.intro ((hB.out.1.keep (zB.alloc zL _)).keep b3) ((hB.out.2.alloc hbz2 _).trans (b3.mono (Nat.le_trans hbz2 (by simp)))))
                 have z3 : w1.heap.size ≤ w3.heap.size := Nat.le_trans (Nat.le_trans (Nat.le_of_lt hwz) (by simp)) b3.size
                 clear b3)
              | (go_at_call 17
                 refine (write_text _ S3.out.1 (by rw [txt_size, List.length_append]; simp; have := Hls.out.1; omega) z3).mono ?_
                 rintro e w4 ⟨rfl, s4, b4, _⟩
                 rw [bs_txt (bytes_app Hls.out.2 (fun n hn => by simp at hn; omega)), HT1.out] at s4
                 have S4 := zH (And.intro s4 (S3.out.2.trans (b4.mono hbz)))
                 have z4 : w1.heap.size < w4.heap.size := by obtain ⟨_, _, _, _, hbk, _⟩ := s4; exact hbk.lt
                 clear s4 b4)
              | (go_at_call 19
                 refine (built_len S4.out.1).mono ?_
                 rintro e w5 ⟨rfl, rfl⟩)
              | fail)
          go_roundw
          case rel => exact ⟨k + 1, by omega, by go_num, by rw [HT.out]; omega, zH ⟨by rw [HT.out]; exact S4.out.1, S4.out.2⟩, z4⟩
          case measure => simp [intOf]; omega
      · obtain rfl : k = n := by omega
        clear hlt
        have htk : cl.take k = cl := List.take_of_length_le (by rw [Hlen.out]; exact Nat.le_refl _)
        rw [htk] at ho hB
        have HV : Hid (R = (textC cl, 0)) := zH (by rw [HNO.out, if_neg (by omega)])
        clear htk
        go_wp2_with (first
          | (go_at_call 20
             refine (built_text hB.out.1 (Nat.le_of_lt hwz)).mono ?_
             rintro e w2 ⟨rfl, b2⟩
             have B2 := zH (hB.out.2.trans (b2.mono hbz))
             clear b2)
          | fail)
        go_ret2
        exact ⟨by rw [HV.out]; rfl, B2.out⟩
  · have hz1 : ((e2 : Int) != 0) = true := by simp; omega
    have hz2 : ((e2 : Int) == 0) = false := by simp; omega
    have hno : R = ([], e2) := by rw [← HR.out]; unfold printC; rw [if_pos (by rw [HE.out]; exact hz), HE.out]
    have HNO := zH hno
    clear hno
    go_enter Tryz.func8, Tryz.ntmps8
    go_wp2_with (first
      | (go_at_call 9; refine (RC.out _ (zB.alloc zL _)).mono ?_; rintro e w1 ⟨rfl, hb⟩; have H1 : Hid (Below w.heap.size w w1) := zH ((zB.alloc zL _).trans (hb.mono (by simp))); clear hb)
      | fail)
    go_ret2
    exact ⟨by rw [HNO.out]; rfl, H1.out⟩
end Go.Proofs.YtdkoafmgenbkbaaGreatDoor
