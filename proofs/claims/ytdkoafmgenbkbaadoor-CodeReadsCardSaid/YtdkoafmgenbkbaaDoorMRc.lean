/- Chapter 11: the reference's Right, where its stands answers as it should. Chapter 11: the reference's Print, where its Right answers as it should. Chapter 11: the reference's Same. Chapter 11: the law CodeRights, walked. -/
import Derived.Test.YtdkoafmgenbkbaaDoorStP
import Derived.Test.YtdkoafmgenbkbaaDoorRCb
import Derived.Test.YtdkoafmgenbkbaaDoorMPl
import Derived.Test.YtdkoafmgenbkbaaDoorCdE
import Derived.Deep.CutRange
import Derived.Test.YtdkoafmgenbkbaaDoorCdG
import Derived.Test.YtdkoafmgenbkbaaDoorProg
import Derived.Deep.QuietTactic
import Derived.BigQuiet
namespace Go.Proofs.YtdkoafmgenbkbaaDoor
set_option linter.unusedSimpArgs false
set_option linter.unusedVariables false
open Go.RowKit

def StandsIs : Prop := ∀ (W0 W : World) (g n c : Nat) (la : Option Addr) (ln lc : Nat) (cl : List Ins) (l : List Pl) (i : Nat) (p : Pl) (x : Ins), plainN x = true → StPre W0 W g n c la ln lc cl l i p x →
  Calls Tryd.prog 21 #[.agg #[.slice la ln lc], .slice (some ⟨g, 0, none⟩) n c, .int .i64 i] W (LedK W g (insN cl l i p x))
theorem info_Known : (Tryd.prog.info? 66).map (fun i => (i.zero, i.size, i.bytes)) = some (some (.agg #[.bool false, .int .i64 0, .slice none 0 0, .slice none 0 0]), 4, 64) := by kernel_rfl
/-- the first place is known -/
theorem KnR.first {tp ti : TypeId} {W : World} {g n : Nat} (h : KnR tp ti W g (List.replicate (n + 1) Pl.none)) : KnR tp ti (W.setCell ⟨g, 0, none⟩ (.bool true)) g (startN n) := by
  obtain ⟨hd, cs, hb0, h2, h3⟩ := h
  have b1 := hb0.set_ 0 (.bool true)
  refine ⟨hd, _, b1, by simpa [startN] using h2, fun j p hp => ?_⟩
  have hsz : 0 < cs.size := by rw [h2]; simp
  cases j with
  | zero =>
    obtain ⟨v, v2, e0, e1, c0, c1, q0, q1⟩ := h3 0 Pl.none (by simp)
    simp [startN] at hp
    subst hp
    refine ⟨v, v2, ?_, ?_, ?_, ?_, q0.set_ hb0 hd.symm _, q1.set_ hb0 hd.symm _⟩
    · simp [Array.getElem?_setIfInBounds, hsz]
    · rw [Array.getElem?_setIfInBounds_ne (by omega)]; exact e1
    · rw [Array.getElem?_setIfInBounds_ne (by omega)]; exact c0
    · rw [Array.getElem?_setIfInBounds_ne (by omega)]; exact c1
  | succ j =>
    have hp' : (List.replicate (n + 1) Pl.none)[j + 1]? = some p := by
      unfold startN at hp
      rw [List.getElem?_cons_succ] at hp
      rw [List.replicate_succ, List.getElem?_cons_succ]
      exact hp
    obtain ⟨v, v2, e0, e1, c0, c1, q0, q1⟩ := h3 (j + 1) p hp'
    refine ⟨v, v2, ?_, ?_, ?_, ?_, q0.set_ hb0 hd.symm _, q1.set_ hb0 hd.symm _⟩
    · rw [Array.getElem?_setIfInBounds_ne (by omega)]; exact e0
    · rw [Array.getElem?_setIfInBounds_ne (by omega)]; exact e1
    · rw [Array.getElem?_setIfInBounds_ne (by omega)]; exact c0
    · rw [Array.getElem?_setIfInBounds_ne (by omega)]; exact c1
set_option maxRecDepth 100000 in
set_option maxHeartbeats 8000000 in
theorem rright_of (hst : StandsIs) {cl : List Ins} {v : Value} (w w0 : World) (hs : SlR w0 w0.heap.size 4 Ins.Is v cl) (hw : Below w0.heap.size w0 w) :
    Calls Tryd.prog 7 #[.agg #[v]] w fun e w' => e = .returned (.tuple #[.int .i64 ((rightC cl).1 : Int), .int .i64 ((rightC cl).2 : Int)]) ∧ Below w.heap.size w w' := by
  obtain ⟨a, c, rfl⟩ : ∃ a c, v = .slice a cl.length c := by obtain ⟨a, c, h, _⟩ := hs.form; exact ⟨a, c, h⟩
  have hn : cl.length ≤ 9223372036854775807 := by have := hs.caps; unfold maxLen at this; omega
  obtain ⟨n, hlen⟩ : ∃ n, cl.length = n := ⟨_, rfl⟩
  rw [hlen] at hs hn ⊢
  have Hlen := Lib.hid hlen
  have Hs := Lib.hid hs
  have Hw := Lib.hid hw
  have HST := Lib.hid hst
  clear hs hlen hw hst
  obtain ⟨R, hR⟩ : ∃ R, rightC cl = R := ⟨_, rfl⟩
  rw [hR]
  have HR := Lib.hid hR
  clear hR
  by_cases hbig : 1024 < n
  · have hb1 : (1024 : Int) < (n : Int) := by omega
    have hr : R = (0, 4) := by rw [← HR.out]; unfold rightC; rw [if_pos (by have := Hlen.out; omega)]
    go_enter Tryd.func7, Tryd.ntmps7
    go_wp2_with fail
    go_ret2
    exact ⟨by rw [hr]; rfl, (Below.refl _ _).alloc (Nat.le_refl _) _⟩
  · have hb1 : ¬ (1024 : Int) < (n : Int) := by omega
    have hb2 : (n : Int) ≤ 1024 := by omega
    have hn0 : (0 : Int) ≤ (n : Int) := Int.natCast_nonneg _
    have hr : goN cl n 0 (startN n) = R := by rw [← HR.out]; unfold rightC; rw [Hlen.out, if_neg hbig]
    have HG0 := Lib.hid hr
    clear hr
    obtain ⟨jP, hi, hz, hsz, hby⟩ := info_parts info_Known
    have hmk : ∀ W, (Instr.makeSlice 63 (.int .i64 ((n : Int) + 1)) (.int .i64 ((n : Int) + 1))).run Tryd.prog W = .ok (.slice (some ⟨W.heap.size, 0, none⟩) (n + 1) (n + 1)) (W.alloc (.cells (madeCells #[.bool false, .int .i64 0, .slice none 0 0, .slice none 0 0] ((n + 1) * 4)) 66)) := fun W => by
      have h := run_make W 63 66 jP _ Tryd.underlying63 hi hz .i64 .i64 ((n : Int) + 1) ((n : Int) + 1) (by omega) (Int.le_refl _) (by rw [hby]; omega) (by omega)
      rw [hsz, show ((n : Int) + 1).toNat = n + 1 by omega] at h
      exact h
    clear hi hz hsz hby
    have wr1 : IntKind.i64.wrap ((n : Int) + 1) = (n : Int) + 1 := by rw [IntKind.wrap_i64]; omega
    have hn1' : (0 : Int) < (n : Int) + 1 := by omega
    go_enter Tryd.func7, Tryd.ntmps7
    go_upto_region 5 with fail
    generalize hW1 : World.alloc (World.alloc w _) _ = W1
    have s1 : W1.heap.size = w.heap.size + 2 := by rw [← hW1]; simp
    have L1 : Below w.heap.size w W1 := by rw [← hW1]; exact ((Below.refl _ _).alloc (Nat.le_refl _) _).alloc (by simp) _
    have B0 : Blk W1 w.heap.size 24 #[.slice a n c] := by rw [← hW1]; exact (Blk.new w _ _).alloc _
    have BM : Blk W1 (w.heap.size + 1) 66 (madeCells #[.bool false, .int .i64 0, .slice none 0 0, .slice none 0 0] ((n + 1) * 4)) := by rw [← hW1]; exact Blk.new_ (by simp) _ _
    have PL1 : KnS W1 (w.heap.size + 1) (List.replicate (n + 1) Pl.none) := KnR.made (by decide) BM
    have K1 := Lib.hid (And.intro L1 (And.intro B0 PL1))
    have S1 := Lib.hid s1
    obtain ⟨g, hg⟩ : ∃ g, w.heap.size + 1 = g := ⟨_, rfl⟩
    have f0 : W1.frozen? ⟨w.heap.size + 1, 0, none⟩ = false := PL1.froz 0
    obtain ⟨_, _, z0, _⟩ := PL1.at_ (i := 0) (p := Pl.none) (by simp)
    simp only [Nat.zero_mul] at z0
    have hgl1 : w.heap.size + 1 < W1.heap.size := by omega
    rw [hg] at K1 f0 z0 hgl1
    rw [hg]
    have hgw : w.heap.size < g := by omega
    clear hW1 s1 L1 B0 BM PL1 hg hmk
    go_upto_region 6 with fail
    generalize hW2 : World.setCell _ _ _ = W2
    have g2 : W1.grownBy W2 (some g) := by rw [← hW2]; exact grown_set _ _ _ _
    have K2 : Hid (KnS W2 g (startN n) ∧ Below w.heap.size w W2 ∧ Blk W2 w.heap.size 24 #[.slice a n c]) := Lib.hid ⟨by rw [← hW2]; exact KnR.first K1.out.2.2, below_grown K1.out.1 K1.out.1.size g2 (Nat.le_of_lt hgw), K1.out.2.1.grown g2 (fun e => by injection e; omega)⟩
    clear hW2 g2 f0 z0 hgl1
    go_wp2_with fail
    go_loopw [6] (fun j wr => ∃ k : Nat, k ≤ n ∧ j = .int .i64 k ∧ ∃ l : List Pl, Hid (l.length = n + 1 ∧ AllGood l ∧ goN cl (n - k) k l = R ∧ KnS wr g l ∧ Below w.heap.size w wr ∧ Blk wr w.heap.size 24 #[.slice a n c])) (fun j _ => n - (intOf j).toNat)
    case atStart => exact ⟨0, Nat.zero_le _, rfl, startN n, Lib.hid ⟨start_len n, start_good n, HG0.out, K2.out⟩⟩
    case round =>
      obtain ⟨k, hk, rfl, l, hI⟩ := hrel
      obtain ⟨p, hp⟩ : ∃ p, l[k]? = some p := ⟨_, List.getElem?_eq_getElem (by have := hI.out.1; omega)⟩
      obtain ⟨pbv, pnv, e0, e1, e2, e3, er, _⟩ := hI.out.2.2.2.1.at_ hp
      obtain ⟨pa, pc, rfl⟩ := er.form
      simp only [List.length_map] at e2
      have hgg' := hI.out.2.2.2.1.lt
      have hww' := hI.out.2.2.2.2.2.lt
      have c0 : wr.cell? ⟨w.heap.size, 0, none⟩ = some (.slice a n c) := hI.out.2.2.2.2.2.cell rfl
      have hk1 : (k : Int) < (n : Int) + 1 := by omega
      have hk0 : (0 : Int) ≤ (k : Int) := Int.natCast_nonneg _
      have hn1 : (n : Int) < (n : Int) + 1 := by omega
      by_cases hlt : k < n
      · obtain ⟨y, hy⟩ := get_some Hlen.out hlt
        have hlt2 : (k : Int) < (n : Int) := by omega
        have hw1 := Hw.out.trans (hI.out.2.2.2.2.1.mono Hw.out.size)
        obtain ⟨b, off, x, rfl, hbB, hxl, ⟨rfl, hyok⟩, hx⟩ := (Hs.out.below hw1).at_ hy
        have y0 := hx 0 _ rfl
        have y1 := hx 1 _ rfl
        have y2 := hx 2 _ rfl
        have y3 := hx 3 _ rfl
        simp only [Nat.add_zero] at y0
        have PLC := Lib.hid (fun W => rplain_any y hyok W)
        have STP := Lib.hid (go_step (c := cl) (l := l) hlt)
        have STQ := Lib.hid (step_of hp hy)
        have HY := Lib.hid (And.intro hy (And.intro hp hlt))
        have INP : Hid (p.known = true → plainN y = true → ∀ W5, Below wr.heap.size wr W5 → StPre w0 W5 g (n + 1) (n + 1) (some ⟨b, off, none⟩) n c cl l k p y) := Lib.hid (fun hkn hpl W5 hb => ⟨Hs.out, hw1.trans (hb.mono hw1.size), hI.out.2.2.2.1.below hb, hI.out.1.symm, by rw [Hlen.out], by rw [Hlen.out]; omega, hy, hp, hI.out.2.1 k p hp hkn, (plain_ops hpl).2.2⟩)
        clear hx hxl hw1 hy hp er
        obtain ⟨pk, hpk⟩ : ∃ q, p.known = q := ⟨_, rfl⟩
        rw [hpk] at e0 INP STQ
        cases pk with
        | false =>
          have HRK : Hid (R = (k, 110)) := Lib.hid (by rw [← hI.out.2.2.1, STP.out, STQ.out]; simp)
          clear hpk STP STQ INP PLC
          go_wp2_with fail
          go_ret2
          exact ⟨by rw [HRK.out]; rfl, hI.out.2.2.2.2.1⟩
        | true =>
          obtain ⟨pq, hpq⟩ : ∃ q, plainN y = q := ⟨_, rfl⟩
          rw [hpq] at PLC STQ
          cases pq with
          | false =>
            have HRK : Hid (R = (k, 110)) := Lib.hid (by rw [← hI.out.2.2.1, STP.out, STQ.out]; simp)
            clear hpk hpq STP STQ INP
            go_wp2_with (first
              | (go_at_call 20; refine (PLC.out _).mono ?_; rintro e w5 ⟨rfl, hb⟩; have HB5 : Hid (Below wr.heap.size wr w5) := Lib.hid hb; have c0 : w5.cell? ⟨w.heap.size, 0, none⟩ = some (.slice (some ⟨b, off, none⟩) n c) := (hI.out.2.2.2.2.2.below hb hww').cell rfl; clear hb)
              | fail)
            go_ret2
            exact ⟨by rw [HRK.out]; rfl, hI.out.2.2.2.2.1.trans (HB5.out.mono hI.out.2.2.2.2.1.size)⟩
          | true =>
            have HPL := Lib.hid hpq
            have INQ : Hid (∀ W5, Below wr.heap.size wr W5 → StPre w0 W5 g (n + 1) (n + 1) (some ⟨b, off, none⟩) n c cl l k p y) := Lib.hid (INP.out rfl hpq)
            rcases hin : insN cl l k p y with _ | lq
            · have HIN := Lib.hid hin
              have HRK : Hid (R = (k, 110)) := Lib.hid (by rw [← hI.out.2.2.1, STP.out, STQ.out, hin]; simp)
              clear hpk hpq STP STQ hin
              go_wp2_with (first
                | (go_at_call 20; refine (PLC.out _).mono ?_; rintro e w5 ⟨rfl, hb⟩; have HB5 : Hid (Below wr.heap.size wr w5) := Lib.hid hb; have c0 : w5.cell? ⟨w.heap.size, 0, none⟩ = some (.slice (some ⟨b, off, none⟩) n c) := (hI.out.2.2.2.2.2.below hb hww').cell rfl; clear hb)
                | (go_at_call 21; go_must (refine (HST.out _ _ _ _ _ _ _ _ _ _ _ _ _ HPL.out (INQ.out _ HB5.out)).mono ?_; rintro e w6 ⟨he, hg6, hp6⟩; rw [HIN.out] at he hp6; simp only [Option.isSome_none] at he; subst he; have HG6 := Lib.hid (And.intro hg6 hp6); clear hg6 hp6))
                | fail)
              go_ret2
              exact ⟨by rw [HRK.out]; rfl, below_grown (hI.out.2.2.2.2.1.trans (HB5.out.mono hI.out.2.2.2.2.1.size)) (by have := hI.out.2.2.2.2.1.size; have := HB5.out.size; omega) HG6.out.1 (Nat.le_of_lt hgw)⟩
            · have HIN := Lib.hid hin
              have HGO : Hid (goN cl (n - (k + 1)) (k + 1) lq = R) := Lib.hid (by rw [← hI.out.2.2.1, STP.out, STQ.out, hin]; simp)
              have HGD := Lib.hid (insN_good hI.out.2.1 (hI.out.2.1 k p HY.out.2.1 hpk) hin)
              clear hpk hpq STP STQ hin
              go_wp2_with (first
                | (go_at_call 20; refine (PLC.out _).mono ?_; rintro e w5 ⟨rfl, hb⟩; have HB5 : Hid (Below wr.heap.size wr w5) := Lib.hid hb; have c0 : w5.cell? ⟨w.heap.size, 0, none⟩ = some (.slice (some ⟨b, off, none⟩) n c) := (hI.out.2.2.2.2.2.below hb hww').cell rfl; clear hb)
                | (go_at_call 21; go_must (refine (HST.out _ _ _ _ _ _ _ _ _ _ _ _ _ HPL.out (INQ.out _ HB5.out)).mono ?_; rintro e w6 ⟨he, hg6, hp6⟩; rw [HIN.out] at he hp6; simp only [Option.isSome_some] at he; subst he; have HG6 := Lib.hid (And.intro hg6 hp6); clear hg6 hp6))
                | fail)
              go_roundw
              case rel =>
                have L5 := hI.out.2.2.2.2.1.trans (HB5.out.mono hI.out.2.2.2.2.1.size)
                exact ⟨k + 1, by omega, by go_num, lq, Lib.hid ⟨HGD.out.2.trans hI.out.1, HGD.out.1, HGO.out, HG6.out.2 lq rfl, below_grown L5 (by have := L5.size; omega) HG6.out.1 (Nat.le_of_lt hgw), ((hI.out.2.2.2.2.2.below HB5.out hww').grown HG6.out.1 (fun e => by injection e; omega))⟩⟩
              case measure => simp [intOf]; omega
      · obtain rfl : k = n := by omega
        clear hlt
        have hE : endN l k = R := by rw [← hI.out.2.2.1, Nat.sub_self]; rfl
        have HE := Lib.hid hE
        have HP := Lib.hid hp
        clear hE hp er
        obtain ⟨pk, hpk⟩ : ∃ q, p.known = q := ⟨_, rfl⟩
        rw [hpk] at e0
        have HPK := Lib.hid hpk
        clear hpk
        cases pk with
        | false =>
          have HRK : Hid (R = (k, 110)) := Lib.hid (by rw [← HE.out, endN_no HP.out (by rw [HPK.out]; simp)])
          go_wp2_with fail
          go_ret2
          exact ⟨by rw [HRK.out]; rfl, hI.out.2.2.2.2.1⟩
        | true =>
          by_cases hh : p.height = 1
          · have hh1 : (p.height != 1) = false := by simpa using hh
            rcases hlp : p.loops with _ | ⟨q0, qs⟩
            · have hz : p.loops.length = 0 := by rw [hlp]; rfl
              rw [hz] at e2
              have HRK : Hid (R = (0, 0)) := Lib.hid (by rw [← HE.out, endN_yes HP.out HPK.out hh hlp])
              clear hh hlp hz
              go_wp2_with fail
              go_ret2
              exact ⟨by rw [HRK.out]; rfl, hI.out.2.2.2.2.1⟩
            · obtain ⟨m, hz⟩ : ∃ m, p.loops.length = m + 1 := ⟨qs.length, by rw [hlp]; rfl⟩
              rw [hz] at e2
              have hm2 : (0 : Int) < ((m + 1 : Nat) : Int) := by omega
              have hm4 : (0 : Int) < (m : Int) + 1 := by omega
              have HRK : Hid (R = (k, 110)) := Lib.hid (by rw [← HE.out, endN_no HP.out (by rw [hlp]; simp)])
              clear hh hlp hz
              go_wp2_with fail
              go_ret2
              exact ⟨by rw [HRK.out]; rfl, hI.out.2.2.2.2.1⟩
          · have hh1 : (p.height != 1) = true := by simpa using hh
            have HRK : Hid (R = (k, 110)) := Lib.hid (by rw [← HE.out, endN_no HP.out (by simp [hh])])
            clear hh
            go_wp2_with fail
            go_ret2
            exact ⟨by rw [HRK.out]; rfl, hI.out.2.2.2.2.1⟩
end Go.Proofs.YtdkoafmgenbkbaaDoor
namespace Go.Proofs.YtdkoafmgenbkbaaDoor
set_option linter.unusedSimpArgs false
set_option linter.unusedVariables false
open Go.RowKit

theorem text_few {c : List Ins} (hc : ∀ (i : Nat) (x : Ins), c[i]? = some x → (lineC x).length ≤ 17000) : ∀ k, (textC (c.take k)).length ≤ 17001 * k := by
  intro k
  induction k with
  | zero => simp [textC]
  | succ k ih =>
    cases h : c[k]? with
    | none =>
      rw [List.getElem?_eq_none_iff] at h
      rw [List.take_of_length_le (by omega)]
      rw [List.take_of_length_le (by omega)] at ih
      omega
    | some x =>
      have h1 := hc k x h
      rw [text_take h, List.length_append, List.length_append]
      simp
      omega
set_option maxRecDepth 100000 in
set_option maxHeartbeats 8000000 in
theorem rprint_of {cl : List Ins} {v : Value} (w w0 : World) (hs : SlR w0 w0.heap.size 4 Ins.Is v cl) (hw : Below w0.heap.size w0 w)
   (hrc : ∀ W, Below w.heap.size w W → Calls Tryd.prog 7 #[.agg #[v]] W fun e w' => e = .returned (.tuple #[.int .i64 ((rightC cl).1 : Int), .int .i64 ((rightC cl).2 : Int)]) ∧ Below W.heap.size W w') :
    Calls Tryd.prog 9 #[.agg #[v]] w fun e w' => e = .returned (.tuple #[.string (txt (printC cl).1), .int .i64 ((printC cl).2 : Int)]) ∧ Below w.heap.size w w' := by
  obtain ⟨a, c, rfl⟩ : ∃ a c, v = .slice a cl.length c := by obtain ⟨a, c, h, _⟩ := hs.form; exact ⟨a, c, h⟩
  have hn : cl.length ≤ 9223372036854775807 := by have := hs.caps; unfold maxLen at this; omega
  have RC := Lib.hid hrc
  clear hrc
  obtain ⟨n, hlen⟩ : ∃ n, cl.length = n := ⟨_, rfl⟩
  rw [hlen] at hs hn RC ⊢
  have Hlen := Lib.hid hlen
  have Hs := Lib.hid hs
  have Hw := Lib.hid hw
  clear hs hlen hw
  obtain ⟨R, hR⟩ : ∃ R, printC cl = R := ⟨_, rfl⟩
  rw [hR]
  have HR := Lib.hid hR
  clear hR
  obtain ⟨e1, he1⟩ : ∃ x, (rightC cl).1 = x := ⟨_, rfl⟩
  obtain ⟨e2, he2⟩ : ∃ x, (rightC cl).2 = x := ⟨_, rfl⟩
  rw [he1, he2] at RC
  have HE := Lib.hid he2
  clear he1 he2
  obtain ⟨j, hi, hz, hsz, hby⟩ := info_parts info_u8
  have I := Lib.hid (And.intro hi (And.intro hz (And.intro hsz hby)))
  clear hi hz hsz hby
  have BX : Hid (Blk (w.alloc (.cells #[.slice a n c] 24)) w.heap.size 24 #[.slice a n c]) := Lib.hid (Blk.new w _ _)
  by_cases hz : e2 = 0
  · subst hz
    have hall : ∀ (i : Nat) (x : Ins), cl[i]? = some x → plainN x = true := fun i x hx => right_plain HE.out hx
    have hn2 : n ≤ 1024 := by
      have h := HE.out
      unfold rightC at h
      split at h
      · cases h
      · have := Hlen.out; omega
    have HALL := Lib.hid hall
    have hok : ∀ (i : Nat) (x : Ins), cl[i]? = some x → x.ok := fun i x hx => by
      obtain ⟨_, _, y, _, _, _, hy, _⟩ := Hs.out.at_ hx
      exact hy.2
    have HFW := Lib.hid (text_few (c := cl) (fun i x hx => (line_small (hok i x hx) (hall i x hx)).1))
    have hno : printC cl = if 1048576 < (textC cl).length then ([], 3) else (textC cl, 0) := by unfold printC; rw [if_neg (by rw [HE.out]; simp)]
    rw [HR.out] at hno
    have HNO := Lib.hid hno
    clear hall hno hok
    go_enter Tryd.func9, Tryd.ntmps9
    go_wp2_with (first
      | (go_at_call 7; refine (RC.out _ ((Below.refl _ _).alloc (Nat.le_refl _) _)).mono ?_; rintro e w1 ⟨rfl, hb⟩; have H1 : Hid (Below w.heap.size w w1) := Lib.hid (((Below.refl _ _).alloc (Nat.le_refl _) _).trans (hb.mono (by simp))); have B1 := BX.out.below hb BX.out.lt; have hl1 := B1.lt; have HB1 := Lib.hid B1; clear hb B1)
      | fail)
    go_loopw [6, 7] (fun out jv wr => ∃ (k : Nat) (oa : Option Addr) (on oc : Nat), k ≤ n ∧ jv = .int .i64 (k : Int) ∧ out = .slice oa on oc ∧ Hid (Own1 wr w1.heap.size 5 1 IsByte (.slice oa on oc) (textC (cl.take k)) ∧ Below w.heap.size w wr ∧ Blk wr w.heap.size 24 #[.slice a n c]) ∧ w1.heap.size ≤ wr.heap.size) (fun _ jv _ => n - (intOf jv).toNat)
    case atStart => exact ⟨0, none, 0, 0, Nat.zero_le _, rfl, rfl, Lib.hid ⟨⟨[], World.ownsRow_nil _ _ _ _, by simpa [textC] using FlatR.nil_⟩, H1.out, HB1.out⟩, Nat.le_refl _⟩
    case round =>
      obtain ⟨k, oa, on, oc, hk, rfl, rfl, hB, hwz⟩ := hrel
      have b1 : (0 : Int) ≤ (k : Int) := Int.natCast_nonneg _
      have hbz := H1.out.size
      have hbz2 := hB.out.2.1.size
      have hlw := hB.out.2.2.lt
      have c0 : wr.cell? ⟨w.heap.size, 0, none⟩ = some (.slice a n c) := hB.out.2.2.cell rfl
      have hfw : (textC (cl.take k)).length ≤ 17500000 := by have := HFW.out k; omega
      have HF2 := Lib.hid hfw
      by_cases hlt : k < n
      · obtain ⟨y, hd⟩ := get_some Hlen.out hlt
        have hw1 := Hw.out.trans (hB.out.2.1.mono Hw.out.size)
        obtain ⟨b, off, x, rfl, hbB, hxl, ⟨rfl, hok⟩, hx⟩ := (Hs.out.below hw1).at_ hd
        have h0 := hx 0 _ rfl
        have h1 := hx 1 _ rfl
        have h2 := hx 2 _ rfl
        have h3 := hx 3 _ rfl
        simp only [Nat.add_zero] at h0
        have hpl := HALL.out k y hd
        have SH : Hid (∀ W, Calls Tryd.prog 26 #[.agg #[.int .i64 y.op, .int .i64 y.arg, .int .i64 y.int, .string y.text]] W fun e w' => e = .returned (.string (txt (lineC y))) ∧ Below W.heap.size W w') := Lib.hid (fun W => rline_any y hok hpl W)
        have Hls := Lib.hid (line_small hok hpl)
        have HT1 : Hid (textC (cl.take k) ++ (lineC y ++ [10]) = textC (cl.take (k + 1))) := Lib.hid (text_take hd).symm
        obtain ⟨T, hT⟩ : ∃ T, textC (cl.take (k + 1)) = T := ⟨_, rfl⟩
        rw [hT] at HT1
        have HT := Lib.hid hT
        have zc : ¬ 9223372036854775807 < (txt (lineC y)).size + 1 := by rw [txt_size]; have := Hls.out.1; omega
        clear hd hx hxl hw1 hok hpl hT
        go_wp2_with (first
            | (go_at_call 26
               refine (SH.out _).mono ?_
               rintro e w3 ⟨rfl, b3⟩
               have S3 := Lib.hid (And.intro (hB.out.1.below b3 (Nat.le_refl _)) (hB.out.2.1.trans (b3.mono hbz2)))
               have z3 : w1.heap.size ≤ w3.heap.size := Nat.le_trans hwz b3.size
               have B3 := hB.out.2.2.below b3 hB.out.2.2.lt
               have HB3 := Lib.hid B3
               clear b3 B3)
            | (at_builtin
               have _o := S3
               go_must (refine wpList_append_text rfl (.tmp 23) (.tmp 30) _ _ (by rfl) w1.heap.size 5 j Tryd.underlying69 Tryd.underlying9 I.out.1 I.out.2.1 I.out.2.2.1 I.out.2.2.2 (.slice oa on oc) (textC (cl.take k)) (by rfl) (by exact S3.out.1) (txt (lineC y) ++ (⟨#[10]⟩ : ByteArray)) (by rfl) (by have h1 := Hls.out.1; have h2 := HF2.out; rw [ByteArray.size_append, txt_size, show (⟨#[10]⟩ : ByteArray).size = 1 from rfl]; unfold maxLen; omega) (by have h1 := Hls.out.1; have h2 := HF2.out; rw [ByteArray.size_append, txt_size, show (⟨#[10]⟩ : ByteArray).size = 1 from rfl]; omega) z3 ?_)
               go_must (intro xa xn xc w4 hown b4; rw [bs_append, bs_txt Hls.out.2, show bs (⟨#[10]⟩ : ByteArray) = [10] from rfl, HT1.out] at hown; have S4 : Hid (Own1 w4 w1.heap.size 5 1 IsByte (.slice xa xn xc) T ∧ Below w.heap.size w w4 ∧ Blk w4 w.heap.size 24 #[.slice (some ⟨b, off, none⟩) n c]) := Lib.hid ⟨hown, S3.out.2.trans (b4.mono hbz), HB3.out.below b4 hl1⟩; have z4 : w1.heap.size ≤ w4.heap.size := Nat.le_trans z3 b4.size; clear hown b4))
            | fail)
        go_roundw
        case rel => exact ⟨k + 1, xa, xn, xc, by omega, by go_num, rfl, Lib.hid ⟨by rw [HT.out]; exact S4.out.1, S4.out.2⟩, z4⟩
        case measure => simp [intOf]; omega
      · obtain rfl : k = n := by omega
        clear hlt
        have htk : cl.take k = cl := List.take_of_length_le (by rw [Hlen.out]; exact Nat.le_refl _)
        rw [htk] at hB hfw
        have hon : on = (textC cl).length := by obtain ⟨_, _, h⟩ := hB.out.1.form; injection h
        subst hon
        have hcv := run_text_of_row (P := Tryd.prog) 69 9 5 Tryd.underlying69 Tryd.underlying5 Tryd.underlying9 hB.out.1
        clear htk
        by_cases hlong : 1048576 < (textC cl).length
        · have dl : decide (1048576 < ((textC cl).length : Int)) = true := by simp only [decide_eq_true_eq]; omega
          have HV : Hid (R = ([], 3)) := Lib.hid (by rw [HNO.out, if_pos hlong])
          go_wp2_with fail
          go_ret2
          exact ⟨by rw [HV.out]; rfl, hB.out.2.1⟩
        · have dl : decide (1048576 < ((textC cl).length : Int)) = false := by simp only [decide_eq_false_iff_not]; omega
          have HV : Hid (R = (textC cl, 0)) := Lib.hid (by rw [HNO.out, if_neg hlong])
          go_wp2_with fail
          go_ret2
          exact ⟨by rw [HV.out]; rfl, hB.out.2.1⟩
  · have hz1 : ((e2 : Int) != 0) = true := by simp; omega
    have hz2 : ((e2 : Int) == 0) = false := by simp; omega
    have hno : R = ([], e2) := by rw [← HR.out]; unfold printC; rw [if_pos (by rw [HE.out]; exact hz), HE.out]
    have HNO := Lib.hid hno
    clear hno
    go_enter Tryd.func9, Tryd.ntmps9
    go_wp2_with (first
      | (go_at_call 7; refine (RC.out _ ((Below.refl _ _).alloc (Nat.le_refl _) _)).mono ?_; rintro e w1 ⟨rfl, hb⟩; have H1 : Hid (Below w.heap.size w w1) := Lib.hid (((Below.refl _ _).alloc (Nat.le_refl _) _).trans (hb.mono (by simp))); clear hb)
      | fail)
    go_ret2
    exact ⟨by rw [HNO.out]; rfl, H1.out⟩

end Go.Proofs.YtdkoafmgenbkbaaDoor
namespace Go.Proofs.YtdkoafmgenbkbaaDoor
set_option linter.unusedSimpArgs false
set_option linter.unusedVariables false
open Go.RowKit

theorem neq_Ins (y z : Ins) (b : Bool) (h : decide (y = z) = !b) (W : World) : (binOp .neq 46 (.agg #[.int .i64 y.op, .int .i64 y.arg, .int .i64 y.int, .string y.text]) (.agg #[.int .i64 z.op, .int .i64 z.arg, .int .i64 z.int, .string z.text])).run Tryd.prog W = .ok (.bool b) W := by
  obtain ⟨y0, y1, y2, y3⟩ := y
  obtain ⟨z0, z1, z2, z3⟩ := z
  go_simp
  simp only [toList_inj]
  cases b <;> simp at h
  all_goals first
    | (simp [h]; done)
    | (repeat' split
       all_goals simp_all)

set_option maxRecDepth 100000 in
set_option maxHeartbeats 4000000 in
theorem rsame_any {l m : List Ins} {v v' : Value} (w w0 : World) (hs : SlR w0 w0.heap.size 4 Ins.Is v l) (ht : SlR w0 w0.heap.size 4 Ins.Is v' m) (hw : Below w0.heap.size w0 w) :
    Calls Tryd.prog 10 #[.agg #[v], .agg #[v']] w fun e w' => e = .returned (.bool (decide (l = m))) ∧ Below w.heap.size w w' := by
  obtain ⟨a, c, rfl⟩ : ∃ a c, v = .slice a l.length c := by obtain ⟨a, c, h, _⟩ := hs.form; exact ⟨a, c, h⟩
  obtain ⟨a', c', rfl⟩ : ∃ a c, v' = .slice a m.length c := by obtain ⟨a, c, h, _⟩ := ht.form; exact ⟨a, c, h⟩
  have hn : l.length ≤ 9223372036854775807 := by have := hs.caps; unfold maxLen at this; omega
  rw [← eqBy_eq]
  by_cases hl : l.length = m.length
  · obtain ⟨n, hlen⟩ : ∃ n, l.length = n := ⟨_, rfl⟩
    rw [← hl] at ht ⊢
    rw [hlen] at hs ht hn ⊢
    have Hlen := Lib.hid hlen
    have Hl := Lib.hid hl
    have Hs := Lib.hid hs
    have Ht := Lib.hid ht
    have Hw := Lib.hid hw
    clear hs ht hlen hw hl
    have hne0 : ((n : Int) != (n : Int)) = false := by simp
    go_enter Tryd.func10, Tryd.ntmps10
    go_wp2_with fail
    generalize hW2 : World.alloc (World.alloc w _) _ = W2
    have L2 : Hid (Below w.heap.size w W2) := Lib.hid (by rw [← hW2]; exact ((Below.refl _ _).alloc (Nat.le_refl _) _).alloc (by simp) _)
    have B0 : Hid (Blk W2 w.heap.size 24 #[.slice a n c]) := Lib.hid (by rw [← hW2]; exact (Blk.new w _ _).alloc _)
    have B1 : Hid (Blk W2 (w.heap.size + 1) 24 #[.slice a' n c']) := Lib.hid (by rw [← hW2]; exact Blk.new_ (by simp) _ _)
    clear hW2
    go_loopw [5] (fun j wr => ∃ k : Nat, k ≤ n ∧ j = .int .i64 k ∧ Hid (Below W2.heap.size W2 wr) ∧ Hid (∀ i y z, i < k → l[i]? = some y → m[i]? = some z → (fun a b => decide (a = b)) y z = true)) (fun j _ => n - (intOf j).toNat)
    case atStart => exact ⟨0, Nat.zero_le _, rfl, Lib.hid (Below.refl _ _), Lib.hid (fun i d _ hi => by omega)⟩
    case round =>
      obtain ⟨k, hk, rfl, hq, hf⟩ := hrel
      have c0 : wr.cell? ⟨w.heap.size, 0, none⟩ = some (.slice a n c) := (B0.out.below hq.out B0.out.lt).cell rfl
      have c1 : wr.cell? ⟨w.heap.size + 1, 0, none⟩ = some (.slice a' n c') := (B1.out.below hq.out B1.out.lt).cell rfl
      have hb := L2.out.trans (hq.out.mono L2.out.size)
      have HB := Lib.hid hb
      by_cases hlt : k < n
      · obtain ⟨y, hd⟩ := get_some Hlen.out hlt
        obtain ⟨z, he⟩ := get_some (Hl.out.symm.trans Hlen.out) hlt
        have hw1 := Hw.out.trans (hb.mono Hw.out.size)
        obtain ⟨b, off, x, rfl, hbB, hxl, ⟨rfl, _⟩, hx⟩ := (Hs.out.below hw1).at_ hd
        obtain ⟨b', off', x', rfl, hbB', hxl', ⟨rfl, _⟩, hx'⟩ := (Ht.out.below hw1).at_ he
        have h0 := hx 0 _ rfl
        have h1 := hx 1 _ rfl
        have h2 := hx 2 _ rfl
        have h3 := hx 3 _ rfl
        have g0 := hx' 0 _ rfl
        have g1 := hx' 1 _ rfl
        have g2 := hx' 2 _ rfl
        have g3 := hx' 3 _ rfl
        simp only [Nat.add_zero] at h0 g0
        have Hd := Lib.hid hd
        have He := Lib.hid he
        clear hd he hx hxl hx' hxl' hw1 hb
        by_cases hyz : y = z
        · have hne := fun W => neq_Ins y z false (by simpa using hyz) W
          have Hyz := Lib.hid hyz
          clear hyz
          go_wp2_with fail
          go_quiet (fail)
          go_wp2_with fail
          go_roundw
          case rel => exact ⟨k + 1, by omega, by go_num, Lib.hid (below_drewN hq.out _), Lib.hid (so_far Hd.out He.out (by simpa using Hyz.out) hf.out)⟩
          case measure => simp [intOf]; omega
        · have hne := fun W => neq_Ins y z true (by simpa using hyz) W
          have Hyz := Lib.hid hyz
          clear hyz
          go_wp2_with fail
          go_quiet (fail)
          go_wp2_with fail
          go_ret
          exact ⟨by rw [eqBy_no _ l m k y z Hd.out He.out (by simpa using Hyz.out)]; rfl, below_drewN HB.out _⟩
      · have hge : n ≤ k := by omega
        clear hlt hb
        go_wp2_with fail
        go_ret
        exact ⟨by rw [eqBy_yes _ l m Hl.out (fun i y z hi => hf.out i y z (by have := Hlen.out; omega))]; rfl, HB.out⟩
  · have hne : ((l.length : Int) != (m.length : Int)) = true := by rw [bne_iff_ne]; omega
    have Hl := Lib.hid hl
    clear hl hs ht hw
    go_enter Tryd.func10, Tryd.ntmps10
    go_wp2_with fail
    go_ret
    exact ⟨by rw [eqBy_len _ l m Hl.out]; rfl, ((Below.refl _ _).alloc (Nat.le_refl _) _).alloc (by simp) _⟩

end Go.Proofs.YtdkoafmgenbkbaaDoor
namespace Go.Proofs.YtdkoafmgenbkbaaDoor
set_option linter.unusedSimpArgs false
set_option linter.unusedVariables false
open Go.RowKit

theorem info_Ins : (Tryd.prog.info? 46).map (fun i => (i.zero, i.size, i.bytes)) = some (some (.agg #[.int .i64 0, .int .i64 0, .int .i64 0, .string ⟨#[]⟩]), 4, 40) := by kernel_rfl
theorem Ins.Is.one (x : List Value) (y : Ins) (hx : Ins.Is x y) : ∀ u ∈ x, u.oneCell' = true := by
  intro u hu
  rw [hx.1] at hu
  simp [Ins.cells] at hu
  rcases hu with rfl | rfl | rfl | rfl <;> rfl
def RightIs : Prop := ∀ (cl : List Ins) (v : Value) (W W0 : World), SlR W0 W0.heap.size 4 Ins.Is v cl → Below W0.heap.size W0 W →
  Calls Tryd.prog 7 #[.agg #[v]] W fun e w' => e = .returned (.tuple #[.int .i64 ((rightC cl).1 : Int), .int .i64 ((rightC cl).2 : Int)]) ∧ Below W.heap.size W w'
set_option maxRecDepth 100000 in
set_option maxHeartbeats 4000000 in
theorem lawR_of (hrr : RightIs) {cl : List Ins} {v : Value} (w : World) (hs : SlR w w.heap.size 4 Ins.Is v cl) (hfit : Fit cl.length 40) (hwd : WordsIs w) (hpw : Pow w) :
    Calls Tryd.prog 3 #[.agg #[v]] w fun e w' => e = .returned (.bool true) ∧ Below w.heap.size w w' := by
  obtain ⟨a, c, rfl⟩ : ∃ a c, v = .slice a cl.length c := by obtain ⟨a, c, h, _⟩ := hs.form; exact ⟨a, c, h⟩
  have hcap := hs.caps
  obtain ⟨n, hlen⟩ : ∃ n, cl.length = n := ⟨_, rfl⟩
  have hby : n * 40 ≤ 140737488355328 := by unfold Fit at hfit; rw [← hlen]; exact hfit
  rw [hlen] at hs hcap ⊢
  have Hlen := Lib.hid hlen
  have Hs := Lib.hid hs
  have Hcap := Lib.hid hcap
  have Hfit := Lib.hid hby
  have HWD := Lib.hid hwd
  have HPW := Lib.hid hpw
  have HRR := Lib.hid hrr
  obtain ⟨jI, hi, hz, hsz, hb⟩ := info_parts info_Ins
  have I := Lib.hid (And.intro hi (And.intro hz (And.intro hsz hb)))
  have B0 : Hid (Blk (w.alloc (.cells #[.slice a n c] 24)) w.heap.size 24 #[.slice a n c]) := Lib.hid (Blk.new w _ _)
  have L0 : Hid (Below w.heap.size w (w.alloc (.cells #[.slice a n c] 24))) := Lib.hid ((Below.refl _ _).alloc (Nat.le_refl _) _)
  clear hi hz hsz hb hs hfit hlen hwd hpw hrr hcap hby
  go_enter Tryd.func3, Tryd.ntmps3
  have tokA : True := trivial
  go_upto_region 2 with (at_builtin
                         have _t := tokA
                         go_must (refine wpList_append_list rfl (.tmp 12) (.tmp 14) _ (by rfl) w.heap.size w.heap.size 46 jI _ 4 40 Tryd.underlying22 I.out.1 I.out.2.1 I.out.2.2.1 I.out.2.2.2 rfl (by omega) (R := Ins.Is) (l := []) (m := cl) (.slice (some ⟨w.heap.size + 1, 0, none⟩) 0 0) (by rfl) (by exact Own1.empty (w := w.alloc _) (by simp) (by simp)) a n c (by rfl) (by exact Hs.out.below (L0.out.alloc L0.out.size _)) n (by simp) Ins.Is.one (by have := Hcap.out; simp; omega) (by have := Hfit.out; simpa using this) (by simp; omega) ?_)
                         go_must (intro xa xc w2 hown hgr; have L2 : Hid (Below w.heap.size w w2) := Lib.hid ((L0.out.alloc L0.out.size _).grown hgr (by simp; omega) (fun g hg => Nat.le_trans (Nat.le_succ _) (Nat.le_of_eq (Option.some.inj hg)))); have B2 : Hid (Blk w2 w.heap.size 24 #[.slice a n c]) := Lib.hid ((B0.out.alloc _).grown hgr (fun e => absurd (show w.heap.size = w.heap.size + 1 from Option.some.inj e) (by omega))); have O2 : Hid (Own1 w2 w.heap.size 46 4 Ins.Is (.slice xa n xc) cl) := Lib.hid (by simpa using hown); clear tokA _t hown hgr))
  generalize hW3 : World.alloc w2 _ = W3
  have L23 : Below w2.heap.size w2 W3 := by rw [← hW3]; exact (Below.refl _ _).alloc (Nat.le_refl _) _
  have B3 : Hid (Blk W3 w2.heap.size 24 #[.slice xa n xc]) := Lib.hid (by rw [← hW3]; exact Blk.new w2 _ _)
  have B1 : Hid (Blk W3 w.heap.size 24 #[.slice a n c]) := Lib.hid (B2.out.below L23 B2.out.lt)
  have L3 : Hid (Below w.heap.size w W3) := Lib.hid (L2.out.trans (L23.mono L2.out.size))
  have OS : Hid (SlR W3 W3.heap.size 4 Ins.Is (.slice xa n xc) cl) := Lib.hid ((O2.out.below L23 (Nat.le_refl _)).read (by decide))
  have CS : Hid (SlR W3 W3.heap.size 4 Ins.Is (.slice a n c) cl) := Lib.hid ((Hs.out.below L3.out).more L3.out.size)
  have hq1 : w.heap.size < W3.heap.size := B1.out.lt
  have hq3 : w2.heap.size < W3.heap.size := B3.out.lt
  have d1 : W3.cell? ⟨w.heap.size, 0, none⟩ = some (.slice a n c) := B1.out.cell rfl
  have d3 : W3.cell? ⟨w2.heap.size, 0, none⟩ = some (.slice xa n xc) := B3.out.cell rfl
  clear hW3 L23
  obtain ⟨r1, hr1⟩ : ∃ x, (rightC cl).1 = x := ⟨_, rfl⟩
  obtain ⟨r2, hr2⟩ : ∃ x, (rightC cl).2 = x := ⟨_, rfl⟩
  obtain ⟨s1, hs1⟩ : ∃ x, txt (printC cl).1 = x := ⟨_, rfl⟩
  obtain ⟨s2, hs2⟩ : ∃ x, (printC cl).2 = x := ⟨_, rfl⟩
  have C1 : Hid (∀ W, Below W3.heap.size W3 W → Calls Tryd.prog 6 #[.agg #[.slice xa n xc]] W fun e w' => e = .returned (.tuple #[.int .i64 (r1 : Int), .int .i64 (r2 : Int)]) ∧ Below W.heap.size W w') := Lib.hid (fun W hW => by have := right_code W W3 OS.out hW; rw [hr1, hr2] at this; exact this)
  have C2 : Hid (∀ W, Below W3.heap.size W3 W → Calls Tryd.prog 7 #[.agg #[.slice a n c]] W fun e w' => e = .returned (.tuple #[.int .i64 (r1 : Int), .int .i64 (r2 : Int)]) ∧ Below W.heap.size W w') := Lib.hid (fun W hW => by have := HRR.out cl _ W W3 CS.out hW; rw [hr1, hr2] at this; exact this)
  have C3 : Hid (∀ W, Below W3.heap.size W3 W → Calls Tryd.prog 8 #[.agg #[.slice xa n xc]] W fun e w' => e = .returned (.tuple #[.string s1, .int .i64 (s2 : Int)]) ∧ Below W.heap.size W w') := Lib.hid (fun W hW => by have := print_any W W3 OS.out hW (HWD.out.below (L3.out.trans (hW.mono L3.out.size))) (HPW.out.below (L3.out.trans (hW.mono L3.out.size))); rw [hs1, hs2] at this; exact this)
  have C4 : Hid (∀ W, Below W3.heap.size W3 W → Calls Tryd.prog 9 #[.agg #[.slice a n c]] W fun e w' => e = .returned (.tuple #[.string s1, .int .i64 (s2 : Int)]) ∧ Below W.heap.size W w') := Lib.hid (fun W hW => by have := rprint_of W W3 CS.out hW (fun W' hW' => HRR.out cl _ W' W3 CS.out (hW.trans (hW'.mono hW.size))); rw [hs1, hs2] at this; exact this)
  have C5 : Hid (∀ W, Below W3.heap.size W3 W → Calls Tryd.prog 10 #[.agg #[.slice xa n xc], .agg #[.slice a n c]] W fun e w' => e = .returned (.bool true) ∧ Below W.heap.size W w') := Lib.hid (fun W hW => by have := rsame_any W W3 OS.out CS.out hW; simpa using this)
  have q1 : ((r1 : Int) == (r1 : Int)) = true := by simp
  have q2 : ((r2 : Int) == (r2 : Int)) = true := by simp
  have q3 : (s1.toList == s1.toList) = true := by simp
  have q4 : ((s2 : Int) == (s2 : Int)) = true := by simp
  clear hr1 hr2 hs1 hs2
  go_wp2_with (first
    | (go_at_call 6; refine (C1.out _ (Below.refl _ _)).mono ?_; rintro e v1 ⟨rfl, hb⟩; have M1 : Hid (Below W3.heap.size W3 v1) := Lib.hid (hb); have d1 : v1.cell? ⟨w.heap.size, 0, none⟩ = some (.slice a n c) := (B1.out.below M1.out hq1).cell rfl; have d3 : v1.cell? ⟨w2.heap.size, 0, none⟩ = some (.slice xa n xc) := (B3.out.below M1.out hq3).cell rfl; clear hb)
    | (go_at_call 7; have _t := M1; refine (C2.out _ (M1.out)).mono ?_; rintro e v2 ⟨rfl, hb⟩; have M2 : Hid (Below W3.heap.size W3 v2) := Lib.hid (M1.out.trans (hb.mono M1.out.size)); have d1 : v2.cell? ⟨w.heap.size, 0, none⟩ = some (.slice a n c) := (B1.out.below M2.out hq1).cell rfl; have d3 : v2.cell? ⟨w2.heap.size, 0, none⟩ = some (.slice xa n xc) := (B3.out.below M2.out hq3).cell rfl; clear hb)
    | (go_at_call 8; have _t := M2; refine (C3.out _ (M2.out)).mono ?_; rintro e v3 ⟨rfl, hb⟩; have M3 : Hid (Below W3.heap.size W3 v3) := Lib.hid (M2.out.trans (hb.mono M2.out.size)); have d1 : v3.cell? ⟨w.heap.size, 0, none⟩ = some (.slice a n c) := (B1.out.below M3.out hq1).cell rfl; have d3 : v3.cell? ⟨w2.heap.size, 0, none⟩ = some (.slice xa n xc) := (B3.out.below M3.out hq3).cell rfl; clear hb)
    | (go_at_call 9; have _t := M3; refine (C4.out _ (M3.out)).mono ?_; rintro e v4 ⟨rfl, hb⟩; have M4 : Hid (Below W3.heap.size W3 v4) := Lib.hid (M3.out.trans (hb.mono M3.out.size)); have d1 : v4.cell? ⟨w.heap.size, 0, none⟩ = some (.slice a n c) := (B1.out.below M4.out hq1).cell rfl; have d3 : v4.cell? ⟨w2.heap.size, 0, none⟩ = some (.slice xa n xc) := (B3.out.below M4.out hq3).cell rfl; clear hb)
    | (go_at_call 10; refine (C5.out _ M4.out).mono ?_; rintro e v5 ⟨rfl, hb⟩; have M5 : Hid (Below W3.heap.size W3 v5) := Lib.hid (M4.out.trans (hb.mono M4.out.size)); clear hb)
    | fail)
  go_ret
  exact ⟨by simp, L3.out.trans (M5.out.mono L3.out.size)⟩

end Go.Proofs.YtdkoafmgenbkbaaDoor
