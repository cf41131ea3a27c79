/- Chapter 11: Right. -/
import Derived.Test.YtdkoafmgenbkbaaDoorIn
import Derived.Test.YtdkoafmgenbkbaaDoorMPl
namespace Go.Proofs.YtdkoafmgenbkbaaDoor
set_option linter.unusedSimpArgs false
set_option linter.unusedVariables false
open Go.RowKit

theorem info_Place : (Tryd.prog.info? 60).map (fun i => (i.zero, i.size, i.bytes)) = some (some (.agg #[.bool false, .int .i64 0, .slice none 0 0]), 3, 40) := by kernel_rfl
theorem endN_yes {l : List Pl} {n : Nat} {p : Pl} (hp : l[n]? = some p) (h1 : p.known = true) (h2 : p.height = 1) (h3 : p.loops = []) : endN l n = (0, 0) := by
  unfold endN; rw [hp]; simp [h1, h2, h3]
theorem endN_no {l : List Pl} {n : Nat} {p : Pl} (hp : l[n]? = some p) (h : ¬ (p.known = true ∧ p.height = 1 ∧ p.loops = [])) : endN l n = (n, 110) := by
  unfold endN; rw [hp]; simp only [if_neg h]
set_option maxRecDepth 100000 in
set_option maxHeartbeats 8000000 in
theorem right_code {cl : List Ins} {v : Value} (w w0 : World) (hs : SlR w0 w0.heap.size 4 Ins.Is v cl) (hw : Below w0.heap.size w0 w) :
    Calls Tryd.prog 6 #[.agg #[v]] w fun e w' => e = .returned (.tuple #[.int .i64 ((rightC cl).1 : Int), .int .i64 ((rightC cl).2 : Int)]) ∧ Below w.heap.size w w' := by
  obtain ⟨a, c, rfl⟩ : ∃ a c, v = .slice a cl.length c := by obtain ⟨a, c, h, _⟩ := hs.form; exact ⟨a, c, h⟩
  have hn : cl.length ≤ 9223372036854775807 := by have := hs.caps; unfold maxLen at this; omega
  obtain ⟨n, hlen⟩ : ∃ n, cl.length = n := ⟨_, rfl⟩
  rw [hlen] at hs hn ⊢
  have Hlen := Lib.hid hlen
  have Hs := Lib.hid hs
  have Hw := Lib.hid hw
  clear hs hlen hw
  obtain ⟨R, hR⟩ : ∃ R, rightC cl = R := ⟨_, rfl⟩
  rw [hR]
  have HR := Lib.hid hR
  clear hR
  by_cases hbig : 1024 < n
  · have hb1 : (1024 : Int) < (n : Int) := by omega
    have hr : R = (0, 4) := by rw [← HR.out]; unfold rightC; rw [if_pos (by have := Hlen.out; omega)]
    go_enter Tryd.func6, Tryd.ntmps6
    go_wp2_with fail
    go_ret2
    exact ⟨by rw [hr]; rfl, (Below.refl _ _).alloc (Nat.le_refl _) _⟩
  · have hb1 : ¬ (1024 : Int) < (n : Int) := by omega
    have hb2 : (n : Int) ≤ 1024 := by omega
    have hn0 : (0 : Int) ≤ (n : Int) := Int.natCast_nonneg _
    have hr : goN cl n 0 (startN n) = R := by rw [← HR.out]; unfold rightC; rw [Hlen.out, if_neg hbig]
    have HG0 := Lib.hid hr
    clear hr
    obtain ⟨jP, hi, hz, hsz, hby⟩ := info_parts info_Place
    have hmk : ∀ W, (Instr.makeSlice 54 (.int .i64 ((n : Int) + 1)) (.int .i64 ((n : Int) + 1))).run Tryd.prog W = .ok (.slice (some ⟨W.heap.size, 0, none⟩) (n + 1) (n + 1)) (W.alloc (.cells (madeCells #[.bool false, .int .i64 0, .slice none 0 0] ((n + 1) * 3)) 60)) := fun W => by
      have h := run_make W 54 60 jP _ Tryd.underlying54 hi hz .i64 .i64 ((n : Int) + 1) ((n : Int) + 1) (by omega) (Int.le_refl _) (by rw [hby]; omega) (by omega)
      rw [hsz, show ((n : Int) + 1).toNat = n + 1 by omega] at h
      exact h
    clear hi hz hsz hby
    have wr1 : IntKind.i64.wrap ((n : Int) + 1) = (n : Int) + 1 := by rw [IntKind.wrap_i64]; omega
    go_enter Tryd.func6, Tryd.ntmps6
    go_wp2_with fail
    go_region
    generalize hW1 : World.drew _ = W1
    have s1 : W1.heap.size = w.heap.size + 3 := by rw [← hW1]; show (World.alloc _ _).heap.size = _; simp
    have L1 : Below w.heap.size w W1 := by rw [← hW1]; exact ((((Below.refl _ _).alloc (Nat.le_refl _) _).alloc (by simp) _).alloc (by simp; omega) _).drew
    have B0 : Blk W1 w.heap.size 24 #[.slice a n c] := by rw [← hW1]; exact ((Blk.new w _ _).alloc _).alloc _
    have BM : Blk W1 (w.heap.size + 1) 60 (madeCells #[.bool false, .int .i64 0, .slice none 0 0] ((n + 1) * 3)) := by rw [← hW1]; exact (Blk.new_ (by simp) _ _).alloc _
    have BK : Blk W1 (w.heap.size + 1 + 1) 56 #[.slice a n c, .slice (some ⟨w.heap.size + 1, 0, none⟩) (n + 1) (n + 1)] := by rw [← hW1]; exact Blk.new_ (by simp) _ _
    have PL1 : PlS W1 (w.heap.size + 1) (List.replicate (n + 1) Pl.none) := PlR.made (by decide) BM
    have K1 := Lib.hid (And.intro L1 (And.intro B0 (And.intro BK PL1)))
    have S1 := Lib.hid s1
    obtain ⟨g, hg⟩ : ∃ g, w.heap.size + 1 = g := ⟨_, rfl⟩
    obtain ⟨kk, hkk⟩ : ∃ kk, w.heap.size + 1 + 1 = kk := ⟨_, rfl⟩
    rw [hkk, hg] at K1
    rw [hkk, hg]
    have hgw : w.heap.size < g := by omega
    have hkw : g < kk := by omega
    have GK := Lib.hid (And.intro hg hkk)
    clear hW1 s1 L1 B0 BM BK PL1 hg hkk hmk
    have LD0 : Hid (Calls Tryd.prog 17 #[.pointer (some ⟨kk, 0, none⟩), .int .i64 0, .int .i64 0, .slice none 0 0] W1 (LedTo W1 g (some (startN n)))) := Lib.hid (by
      have h := lead_any (to := 0) W1 0 (.slice none 0 0) [] K1.out.2.2.1 K1.out.2.2.2 (by simp) (by simp) (by omega) RowR.nil_
      rw [lead_start] at h
      exact h)
    go_wp2_with (first
      | (go_at_call 17; refine LD0.out.mono ?_; rintro e w2 ⟨rfl, hg2, hp2⟩; have P2 := hp2 _ rfl; have B02 := K1.out.2.1.grown hg2 (fun e => by injection e; omega); have BK2 := K1.out.2.2.1.grown hg2 (fun e => by injection e; omega); have L2 := below_grown K1.out.1 K1.out.1.size hg2 (Nat.le_of_lt hgw); have c0 : w2.cell? ⟨w.heap.size, 0, none⟩ = some (.slice a n c) := B02.cell rfl; have K2 := Lib.hid (And.intro L2 (And.intro B02 (And.intro BK2 P2))); clear hg2 hp2 P2 B02 BK2 L2 LD0)
      | fail)
    go_loopw [6, 7, 26] (fun _ _ j wr => ∃ k : Nat, k ≤ n ∧ j = .int .i64 k ∧ ∃ l : List Pl, Hid (l.length = n + 1 ∧ AllGood l ∧ goN cl (n - k) k l = R ∧ PlS wr g l ∧ Below w.heap.size w wr ∧ Blk wr w.heap.size 24 #[.slice a n c] ∧ Blk wr kk 56 #[.slice a n c, .slice (some ⟨g, 0, none⟩) (n + 1) (n + 1)])) (fun _ _ j _ => n - (intOf j).toNat)
    case atStart => exact ⟨0, Nat.zero_le _, rfl, startN n, Lib.hid ⟨start_len n, start_good n, HG0.out, K2.out.2.2.2, K2.out.1, K2.out.2.1, K2.out.2.2.1⟩⟩
    case round =>
      obtain ⟨k, hk, rfl, l, hI⟩ := hrel
      obtain ⟨p, hp⟩ : ∃ p, l[k]? = some p := ⟨_, List.getElem?_eq_getElem (by have := hI.out.1; omega)⟩
      obtain ⟨pv, e0, e1, e2, er⟩ := hI.out.2.2.2.1.at_ hp
      obtain ⟨pa, pc, rfl⟩ := er.form
      have hkk' := hI.out.2.2.2.2.2.2.lt
      have hgg' := hI.out.2.2.2.1.lt
      have hww' := hI.out.2.2.2.2.2.1.lt
      have ck1 : wr.cell? ⟨kk, 1, none⟩ = some (.slice (some ⟨g, 0, none⟩) (n + 1) (n + 1)) := hI.out.2.2.2.2.2.2.cell rfl
      have hk1 : (k : Int) < (n : Int) + 1 := by omega
      have hk0 : (0 : Int) ≤ (k : Int) := Int.natCast_nonneg _
      have hn1 : (n : Int) < (n : Int) + 1 := by omega
      by_cases hlt : k < n
      · obtain ⟨y, hy⟩ := get_some Hlen.out hlt
        have hw1 := Hw.out.trans (hI.out.2.2.2.2.1.mono Hw.out.size)
        obtain ⟨b, off, x, rfl, hbB, hxl, ⟨rfl, hyok⟩, hx⟩ := (Hs.out.below hw1).at_ hy
        have y0 := hx 0 _ rfl
        have y1 := hx 1 _ rfl
        have y2 := hx 2 _ rfl
        have y3 := hx 3 _ rfl
        simp only [Nat.add_zero] at y0
        have PLC := Lib.hid (fun W => plain_any y hyok W)
        have STP := Lib.hid (go_step (c := cl) (l := l) hlt)
        have STQ := Lib.hid (step_of hp hy)
        have HY := Lib.hid (And.intro hy (And.intro hp hlt))
        have INP : Hid (p.known = true → plainN y = true → ∀ W5, Below wr.heap.size wr W5 → InsPre w0 W5 kk g (n + 1) (n + 1) (some ⟨b, off, none⟩) n c cl l k p y.arg) := Lib.hid (fun hkn hpl W5 hb => ⟨hI.out.2.2.2.2.2.2.below hb hkk', Hs.out, hw1.trans (hb.mono hw1.size), hI.out.2.2.2.1.below hb, hI.out.1.symm, by rw [Hlen.out], by rw [Hlen.out]; omega, by rw [Hlen.out]; exact hlt, hp, hI.out.2.1 k p hp hkn, (plain_ops hpl).2.2⟩)
        clear hx hxl hw1 hy hp er
        obtain ⟨pk, hpk⟩ : ∃ q, p.known = q := ⟨_, rfl⟩
        rw [hpk] at e0 INP STQ
        cases pk with
        | false =>
          have HRK : Hid (R = (k, 110)) := Lib.hid (by rw [← hI.out.2.2.1, STP.out, STQ.out]; simp)
          clear hpk STP STQ INP PLC
          go_wp2_with fail
          go_ret2
          exact ⟨by rw [HRK.out]; rfl, hI.out.2.2.2.2.1.alloc hI.out.2.2.2.2.1.size _⟩
        | true =>
          obtain ⟨pq, hpq⟩ : ∃ q, plainN y = q := ⟨_, rfl⟩
          rw [hpq] at PLC STQ
          cases pq with
          | false =>
            have HRK : Hid (R = (k, 110)) := Lib.hid (by rw [← hI.out.2.2.1, STP.out, STQ.out]; simp)
            clear hpk hpq STP STQ INP
            go_wp2_with (first
              | (go_at_call 18; refine (PLC.out _).mono ?_; rintro e w5 ⟨rfl, hb⟩; have hb5 : Below wr.heap.size wr w5 := ((Below.refl _ _).alloc (Nat.le_refl _) _).trans (hb.mono (by simp)); have B5 : Blk w5 wr.heap.size 46 #[.int .i64 y.op, .int .i64 y.arg, .int .i64 y.int, .string y.text] := (Blk.new wr _ _).below hb (by simp); have x0 : w5.cell? ⟨wr.heap.size, 0, none⟩ = some (.int .i64 y.op) := B5.cell rfl; have x1 : w5.cell? ⟨wr.heap.size, 1, none⟩ = some (.int .i64 y.arg) := B5.cell rfl; have x2 : w5.cell? ⟨wr.heap.size, 2, none⟩ = some (.int .i64 y.int) := B5.cell rfl; have x3 : w5.cell? ⟨wr.heap.size, 3, none⟩ = some (.string y.text) := B5.cell rfl; have HB5 := Lib.hid hb5; clear hb hb5 B5)
              | fail)
            go_ret2
            exact ⟨by rw [HRK.out]; rfl, hI.out.2.2.2.2.1.trans (HB5.out.mono hI.out.2.2.2.2.1.size)⟩
          | true =>
            have HPL := Lib.hid hpq
            have INQ : Hid (∀ W5, Below wr.heap.size wr W5 → InsPre w0 W5 kk g (n + 1) (n + 1) (some ⟨b, off, none⟩) n c cl l k p y.arg) := Lib.hid (INP.out rfl hpq)
            rcases hin : insN cl l k p y with _ | lq
            · have HIN := Lib.hid hin
              have HRK : Hid (R = (k, 110)) := Lib.hid (by rw [← hI.out.2.2.1, STP.out, STQ.out, hin]; simp)
              clear hpk hpq STP STQ hin
              go_wp2_with (first
                | (go_at_call 18; refine (PLC.out _).mono ?_; rintro e w5 ⟨rfl, hb⟩; have hb5 : Below wr.heap.size wr w5 := ((Below.refl _ _).alloc (Nat.le_refl _) _).trans (hb.mono (by simp)); have B5 : Blk w5 wr.heap.size 46 #[.int .i64 y.op, .int .i64 y.arg, .int .i64 y.int, .string y.text] := (Blk.new wr _ _).below hb (by simp); have x0 : w5.cell? ⟨wr.heap.size, 0, none⟩ = some (.int .i64 y.op) := B5.cell rfl; have x1 : w5.cell? ⟨wr.heap.size, 1, none⟩ = some (.int .i64 y.arg) := B5.cell rfl; have x2 : w5.cell? ⟨wr.heap.size, 2, none⟩ = some (.int .i64 y.int) := B5.cell rfl; have x3 : w5.cell? ⟨wr.heap.size, 3, none⟩ = some (.string y.text) := B5.cell rfl; have HB5 := Lib.hid hb5; clear hb hb5 B5)
                | (go_at_call 19; go_must (refine (ins_any y (plain_ops HPL.out).1 (plain_ops HPL.out).2.1 (INQ.out _ HB5.out)).mono ?_; rintro e w6 ⟨he, hg6, hp6⟩; rw [HIN.out] at he hp6; simp only [Option.isSome_none] at he; subst he; have HG6 := Lib.hid (And.intro hg6 hp6); clear hg6 hp6))
                | fail)
              go_ret2
              exact ⟨by rw [HRK.out]; rfl, below_grown (hI.out.2.2.2.2.1.trans (HB5.out.mono hI.out.2.2.2.2.1.size)) (by have := hI.out.2.2.2.2.1.size; have := HB5.out.size; omega) HG6.out.1 (Nat.le_of_lt hgw)⟩
            · have HIN := Lib.hid hin
              have HGO : Hid (goN cl (n - (k + 1)) (k + 1) lq = R) := Lib.hid (by rw [← hI.out.2.2.1, STP.out, STQ.out, hin]; simp)
              have HGD := Lib.hid (insN_good hI.out.2.1 (hI.out.2.1 k p HY.out.2.1 hpk) hin)
              clear hpk hpq STP STQ hin
              go_wp2_with (first
                | (go_at_call 18; refine (PLC.out _).mono ?_; rintro e w5 ⟨rfl, hb⟩; have hb5 : Below wr.heap.size wr w5 := ((Below.refl _ _).alloc (Nat.le_refl _) _).trans (hb.mono (by simp)); have B5 : Blk w5 wr.heap.size 46 #[.int .i64 y.op, .int .i64 y.arg, .int .i64 y.int, .string y.text] := (Blk.new wr _ _).below hb (by simp); have x0 : w5.cell? ⟨wr.heap.size, 0, none⟩ = some (.int .i64 y.op) := B5.cell rfl; have x1 : w5.cell? ⟨wr.heap.size, 1, none⟩ = some (.int .i64 y.arg) := B5.cell rfl; have x2 : w5.cell? ⟨wr.heap.size, 2, none⟩ = some (.int .i64 y.int) := B5.cell rfl; have x3 : w5.cell? ⟨wr.heap.size, 3, none⟩ = some (.string y.text) := B5.cell rfl; have HB5 := Lib.hid hb5; clear hb hb5 B5)
                | (go_at_call 19; go_must (refine (ins_any y (plain_ops HPL.out).1 (plain_ops HPL.out).2.1 (INQ.out _ HB5.out)).mono ?_; rintro e w6 ⟨he, hg6, hp6⟩; rw [HIN.out] at he hp6; simp only [Option.isSome_some] at he; subst he; have HG6 := Lib.hid (And.intro hg6 hp6); clear hg6 hp6))
                | fail)
              go_roundw
              case rel =>
                have L5 := hI.out.2.2.2.2.1.trans (HB5.out.mono hI.out.2.2.2.2.1.size)
                exact ⟨k + 1, by omega, by go_num, lq, Lib.hid ⟨HGD.out.2.trans hI.out.1, HGD.out.1, HGO.out, HG6.out.2 lq rfl, below_grown L5 (by have := L5.size; omega) HG6.out.1 (Nat.le_of_lt hgw), ((hI.out.2.2.2.2.2.1.below HB5.out hww').grown HG6.out.1 (fun e => by injection e; omega)), ((hI.out.2.2.2.2.2.2.below HB5.out hkk').grown HG6.out.1 (fun e => by injection e; omega))⟩⟩
              case measure => simp [intOf]; omega
      · obtain rfl : k = n := by omega
        clear hlt
        have hE : endN l k = R := by rw [← hI.out.2.2.1, Nat.sub_self]; rfl
        have HE := Lib.hid hE
        have HP := Lib.hid hp
        clear hE hp er
        obtain ⟨pk, hpk⟩ : ∃ q, p.known = q := ⟨_, rfl⟩
        rw [hpk] at e0
        have HPK := Lib.hid hpk
        clear hpk
        cases pk with
        | false =>
          have HRK : Hid (R = (k, 110)) := Lib.hid (by rw [← HE.out, endN_no HP.out (by rw [HPK.out]; simp)])
          go_wp2_with fail
          go_ret2
          exact ⟨by rw [HRK.out]; rfl, hI.out.2.2.2.2.1.alloc hI.out.2.2.2.2.1.size _⟩
        | true =>
          by_cases hh : p.height = 1
          · have hh1 : (p.height != 1) = false := by simpa using hh
            have HH := Lib.hid hh
            rcases hlp : p.loops with _ | ⟨q0, qs⟩
            · have hz : p.loops.length = 0 := by rw [hlp]; rfl
              rw [hz] at e2
              have HRK : Hid (R = (0, 0)) := Lib.hid (by rw [← HE.out, endN_yes HP.out HPK.out hh hlp])
              clear hh hlp hz
              go_wp2_with fail
              go_ret2
              exact ⟨by rw [HRK.out]; rfl, hI.out.2.2.2.2.1.alloc hI.out.2.2.2.2.1.size _⟩
            · obtain ⟨m, hz⟩ : ∃ m, p.loops.length = m + 1 := ⟨qs.length, by rw [hlp]; rfl⟩
              rw [hz] at e2
              have hm2 : (0 : Int) < ((m + 1 : Nat) : Int) := by omega
              have hm4 : (0 : Int) < (m : Int) + 1 := by omega
              have HRK : Hid (R = (k, 110)) := Lib.hid (by rw [← HE.out, endN_no HP.out (by rw [hlp]; simp)])
              clear hh hlp hz
              go_wp2_with fail
              go_ret2
              exact ⟨by rw [HRK.out]; rfl, hI.out.2.2.2.2.1.alloc hI.out.2.2.2.2.1.size _⟩
          · have hh1 : (p.height != 1) = true := by simpa using hh
            have HRK : Hid (R = (k, 110)) := Lib.hid (by rw [← HE.out, endN_no HP.out (by simp [hh])])
            clear hh
            go_wp2_with fail
            go_ret2
            exact ⟨by rw [HRK.out]; rfl, hI.out.2.2.2.2.1.alloc hI.out.2.2.2.2.1.size _⟩
end Go.Proofs.YtdkoafmgenbkbaaDoor
