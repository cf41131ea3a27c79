/- - - - -/
import Derived.Test.YtdkoafmgenbkbaaGreatDoorKM12
set_option maxRecDepth 100000
set_option maxHeartbeats 32000000
set_option linter.unusedSimpArgs false
set_option linter.unusedVariables false
namespace Go.Proofs.YtdkoafmgenbkbaaGreatDoor
open Go.RowKit
theorem grown_trans8 {a b c : World} {row : Option Nat} (h : a.grownBy b row) (k : b.grownBy c row) : a.grownBy c row :=
  ⟨k.os.trans h.os, k.tape.trans h.tape, k.output.trans h.output, Nat.le_trans h.size k.size, fun g hg hne => (k.block g (Nat.lt_of_lt_of_le hg h.size) hne).trans (h.block g hg hne)⟩
theorem grown_of_below {a b : World} (row : Option Nat) (h : Below a.heap.size a b) : a.grownBy b row := ⟨h.os, h.tape, h.output, h.size, fun g hg _ => h.block g hg⟩
theorem cell_grown {a b : World} {row : Option Nat} (h : a.grownBy b row) {p : Addr} {u : Value} (hp : a.cell? p = some u) (hne : some p.block ≠ row) : b.cell? p = some u :=
  (World.cell?_of_block (h.block p.block (cell_lt hp) hne)).trans hp
def MetE (l : List ND) (Ws : World) (b1 : Nat) (i : Int) (m f : Nat) (e : Ending) (W' : World) : Prop :=
  ∃ o : Option (Nat × Nat), o = (if i = (m : Int) then metN l f m else none) ∧ e = .returned (.int .i64 (match o with | some r => (r.1 : Int) | none => 0)) ∧ Ws.grownBy W' (some b1) ∧ ∀ r, o = some r → Blk W' b1 3 #[.int .i64 (r.2 : Int)]
theorem rmet_no (n : Nat) (a : Option Addr) (c : Nat) (b0 b1 b2 : Nat) (i : Int) (m : Nat) (W : World) (h0 : W.cell? ⟨b0, 0, none⟩ = some (.slice a n c)) (h1 : W.cell? ⟨b1, 0, none⟩ = some (.int .i64 (m : Int))) (hno : i ≠ (m : Int) ∨ (n : Int) ≤ i) :
    Calls Tryz.prog 27 #[.int .i64 i, .pointer (some ⟨b1, 0, none⟩), .pointer (some ⟨b0, 0, none⟩), .pointer (some ⟨b2, 0, none⟩)] W fun e W' => e = .returned (.int .i64 0) ∧ W' = W := by
  by_cases e : i = (m : Int)
  · subst e
    have d1 : decide ((n : Int) ≤ (m : Int)) = true := by simp; omega
    have d2 : n ≤ m := by omega
    clear hno
    go_enter Tryz.func27, Tryz.ntmps27
    go_wp2_with fail
    go_ret
    exact ⟨rfl, rfl⟩
  · have d1 : (i != (m : Int)) = true := by simpa using e
    clear hno e
    go_enter Tryz.func27, Tryz.ntmps27
    go_wp2_with fail
    go_ret
    exact ⟨rfl, rfl⟩
theorem rmet_any {l : List ND} {v : Value} (w0 Ws : World) (b0 b1 b2 : Nat) (hs : SlR w0 w0.heap.size 4 (ND.Is w0 w0.heap.size) v l) (hok : ∀ d ∈ l, NdOk d) (hn : l.length ≤ 256) (hm : Marks w0) (hp : Pow w0) (hl : Below w0.heap.size w0 Ws) (hb1 : w0.heap.size ≤ b1)
    (h0 : Ws.cell? ⟨b0, 0, none⟩ = some v) (h2 : Ws.cell? ⟨b2, 0, none⟩ = some (.func (.func 27) #[] #[.pointer (some ⟨b1, 0, none⟩), .pointer (some ⟨b0, 0, none⟩), .pointer (some ⟨b2, 0, none⟩)])) (n0 : b0 ≠ b1) (n2 : b2 ≠ b1) :
    ∀ (f m : Nat), l.length - m ≤ f → ∀ (i : Int) (W : World), Ws.grownBy W (some b1) → Blk W b1 3 #[.int .i64 (m : Int)] →
      Calls Tryz.prog 27 #[.int .i64 i, .pointer (some ⟨b1, 0, none⟩), .pointer (some ⟨b0, 0, none⟩), .pointer (some ⟨b2, 0, none⟩)] W (MetE l Ws b1 i m f) := by
  obtain ⟨a, c, rfl⟩ : ∃ a c, v = .slice a l.length c := by obtain ⟨a, c, h, _⟩ := hs.form; exact ⟨a, c, h⟩
  have no : ∀ (f m : Nat) (i : Int) (W : World), Ws.grownBy W (some b1) → Blk W b1 3 #[.int .i64 (m : Int)] → (i ≠ (m : Int) ∨ (l.length : Int) ≤ i) →
      Calls Tryz.prog 27 #[.int .i64 i, .pointer (some ⟨b1, 0, none⟩), .pointer (some ⟨b0, 0, none⟩), .pointer (some ⟨b2, 0, none⟩)] W (MetE l Ws b1 i m f) := by
    intro f m i W hg hB hno
    refine (rmet_no l.length a c b0 b1 b2 i m W (cell_grown hg h0 (by simpa using n0)) (hB.cell (i := 0) rfl) hno).mono ?_
    rintro e W' ⟨rfl, rfl⟩
    refine ⟨none, ?_, rfl, hg, fun r h => by cases h⟩
    by_cases e : i = (m : Int)
    · rw [if_pos e]
      have hlm : l.length ≤ m := by omega
      cases f with
      | zero => rfl
      | succ f => simp only [metN]; rw [List.getElem?_eq_none hlm]
    · rw [if_neg e]
  intro f
  induction f with
  | zero =>
    intro m hmf i W hg hB
    by_cases e : i = (m : Int)
    · exact no 0 m i W hg hB (.inr (by omega))
    · exact no 0 m i W hg hB (.inl e)
  | succ f ih =>
    intro m hmf i W hg hB
    by_cases hno : i ≠ (m : Int) ∨ (l.length : Int) ≤ i
    · exact no (f + 1) m i W hg hB hno
    obtain ⟨rfl, hlt⟩ : i = (m : Int) ∧ m < l.length := by omega
    clear hno no
    have hlW := hl.grown hg hl.size (fun k hk => by injection hk with hk; omega)
    obtain ⟨⟨k, s, nm, ks⟩, hd⟩ := get_some rfl hlt
    have hko := hok _ (List.mem_iff_getElem?.2 ⟨m, hd⟩)
    obtain ⟨b, off, x, rfl, hbB, hxl, ⟨kv, rfl, hks⟩, hx⟩ := (hs.below hlW).at_ hd
    simp only at hks hx
    obtain ⟨ka, kc, rfl, _⟩ := hks.form
    have c0 := hx 0 _ rfl
    have c1 := hx 1 _ rfl
    have c2 := hx 2 _ rfl
    have c3 := hx 3 _ rfl
    simp only [Nat.add_zero] at c0
    obtain ⟨kn, hkn⟩ : ∃ z, ks.length = z := ⟨_, rfl⟩
    have hk63 : kn ≤ 9223372036854775807 := by have := hks.caps; unfold maxLen at this; omega
    rw [hkn] at c3 hks
    have hM : metN l (f + 1) m = if mayE ⟨k, s, nm, ks⟩ = true then (metL (metN l f) ks (m + 1) 0).map fun r => (r.1 + 1, r.2) else none := by simp only [metN]; rw [hd]
    have MY := zH (p_may k s nm ks ka kn kc hkn.symm hk63 hko.1 hko.2.1 W (hm.below hlW) (hp.below hlW))
    have q0 := cell_grown hg h0 (by simpa using n0)
    have q2 := cell_grown hg h2 (by simpa using n2)
    have q1 : W.cell? ⟨b1, 0, none⟩ = some (.int .i64 (m : Int)) := hB.cell (i := 0) rfl
    have hbne : b ≠ b1 := by omega
    have HMF := zH hmf
    have HM := zH hM
    have HKS := zH (hks)
    have HKN := zH hkn
    have HG := zH hg
    have HB := zH hB
    have HIH := zH ih
    have HLW := zH hlW
    have HB1 := zH hb1
    have HLS := zH hl
    have HN := zH (And.intro h2 (And.intro n2 n0))
    have HH0 := zH h0
    obtain ⟨n, hlen⟩ : ∃ n, l.length = n := ⟨_, rfl⟩
    have HLEN := zH hlen
    rw [hlen] at hlt hn q0
    have m5 : (m : Int) ≤ 5000 := by omega
    have m0 : (0 : Int) ≤ (m : Int) := Int.natCast_nonneg _
    have d1 : ((m : Int) != (m : Int)) = false := by simp
    have d2 : decide ((n : Int) ≤ (m : Int)) = false := by simp; omega
    have d3 : ¬ n ≤ m := by omega
    have d4 : (m : Int) < (n : Int) := by omega
    have l1 := hB.lt
    clear hok hko hs hm hp hl hd hx hxl hks hkn hM hg hB ih hlW hlen h0 h2 hmf
    obtain ⟨bm, hbm⟩ : ∃ z, mayE ⟨k, s, nm, ks⟩ = z := ⟨_, rfl⟩
    rw [hbm] at MY HM
    clear hbm
    cases bm with
    | false =>
      rw [if_neg (by simp)] at HM
      go_enter Tryz.func27, Tryz.ntmps27
      go_wp2_with (first
        | (go_at_call 28; refine MY.out.mono ?_; rintro e w1 ⟨rfl, b1'⟩; have B1 := zH b1'; clear b1'))
      go_ret
      exact ⟨none, by rw [if_pos rfl, HM.out], rfl, grown_trans8 HG.out (grown_of_below _ B1.out), fun r h => by cases h⟩
    | true =>
      rw [if_pos rfl] at HM
      go_enter Tryz.func27, Tryz.ntmps27
      go_wp2_with (first
        | (go_at_call 28; refine MY.out.mono ?_; rintro e w1 ⟨rfl, b1'⟩; have B1 := zH b1'; have p1 : w1.cell? ⟨b1, 0, none⟩ = some (.int .i64 (m : Int)) := (World.cell?_of_block (b1'.block b1 l1)).trans q1; have z1 : w1.frozen? ⟨b1, 0, none⟩ = false := (HB.out.below b1' l1).frozen 0; have p0 : w1.cell? ⟨b0, 0, none⟩ = some (.slice (some ⟨b, off, none⟩) n c) := (World.cell?_of_block (b1'.block b0 (cell_lt q0))).trans q0; have pc : w1.cell? ⟨b, off + m * 4 + 3, none⟩ = some (.slice ka kn kc) := (World.cell?_of_block (b1'.block b (cell_lt c0))).trans c3; have l11 : b1 < w1.heap.size := cell_lt p1; clear b1'))
      generalize hwq : World.setCell w1 _ _ = W2
      have GR2 : Hid (Ws.grownBy W2 (some b1)) := zH (by rw [← hwq]; exact grown_trans8 (grown_trans8 HG.out (grown_of_below _ B1.out)) ⟨rfl, rfl, rfl, by simp, fun g hg hne => Below.heap_setCell w1 _ _ g (by intro e; exact hne (by rw [e]))⟩)
      have BK2 : Hid (Blk W2 b1 3 #[.int .i64 ((m + 1 : Nat) : Int)]) := zH (by rw [← hwq, show ((m + 1 : Nat) : Int) = (m : Int) + 1 by omega]; exact (HB.out.below B1.out l1).set_ 0 _)
      clear hwq p1 z1 p0 pc l11 c0 c1 c2 c3 q0 q1 q2 MY B1
      obtain ⟨R, hR⟩ : ∃ R, metL (metN l f) ks (m + 1) 0 = R := ⟨_, rfl⟩
      rw [hR] at HM
      have HR := zH hR
      clear hR
      go_loopw [6, 8, 9, 38] (fun dv _ _ iv wr => ∃ (j dp mk : Nat), j ≤ kn ∧ dv = .int .i64 (dp : Int) ∧ iv = .int .i64 (j : Int) ∧ Hid (dp ≤ 256 ∧ m + 1 ≤ mk ∧ mk ≤ l.length) ∧ Hid (Ws.grownBy wr (some b1)) ∧ Hid (Blk wr b1 3 #[.int .i64 (mk : Int)]) ∧ Hid (metL (metN l f) (ks.drop j) mk dp = R)) (fun _ _ _ iv _ => kn - (intOf iv).toNat)
      case atStart => exact ⟨0, 0, m + 1, Nat.zero_le _, rfl, rfl, zH ⟨by omega, Nat.le_refl _, by rw [HLEN.out]; omega⟩, GR2, BK2, zH (by rw [List.drop_zero]; exact HR.out)⟩
      case round =>
        clear GR2 BK2
        obtain ⟨j, dp, mk, hj, rfl, rfl, hbd, hg, hB, hrest⟩ := hrel
        have j0 : (0 : Int) ≤ (j : Int) := Int.natCast_nonneg _
        have dp5 : (dp : Int) ≤ 5000 := by have := hbd.out; omega
        have dp0 : (0 : Int) ≤ (dp : Int) := Int.natCast_nonneg _
        by_cases hlt2 : j < kn
        · obtain ⟨kk, hkk⟩ := get_some HKN.out hlt2
          obtain ⟨bb, o1, x1, rfl, hbb, _, rfl, hx1⟩ := HKS.out.at_ hkk
          have e1 : w0.cell? ⟨bb, o1 + j, none⟩ = some (.int .i64 kk) := by have := hx1 0 _ rfl; simpa using this
          have k1 : wr.cell? ⟨bb, o1 + j, none⟩ = some (.int .i64 kk) := cell_grown hg.out ((World.cell?_of_block (HLS.out.block bb hbb)).trans e1) (by intro e; injection e with e; have := HB1.out; have e' : bb = b1 := e; omega)
          have q2 := cell_grown hg.out HN.out.1 (by have := HN.out.2.1; simpa using this)
          have hdr : ks.drop j = kk :: ks.drop (j + 1) := by
            have hjl := (List.getElem?_eq_some_iff.1 hkk).1
            rw [List.drop_eq_getElem_cons hjl, (List.getElem?_eq_some_iff.1 hkk).2]
          have hrest2 := hrest.out
          rw [hdr] at hrest2
          simp only [metL] at hrest2
          have HRR := zH hrest2
          have CC := zH (HIH.out mk (by have := HMF.out; have := hbd.out; omega) kk wr hg.out hB.out)
          clear hkk hx1 e1 hdr hrest2 hrest
          go_wp2_with fail
          refine CC.out.mono ?_
          rintro e w3 ⟨o, ho, rfl, hg3, hB3⟩
          have HG3 := zH hg3
          have HB3 := zH hB3
          clear hg3 hB3 k1 q2 CC
          cases o with
          | none =>
            have hR0 : R = none := by
              have h9 := HRR.out
              by_cases e : kk = (mk : Int)
              · rw [if_pos e] at h9 ho
                rw [← ho] at h9
                exact h9.symm
              · rw [if_neg e] at h9
                exact h9.symm
            subst hR0
            clear ho
            go_wp2_with fail
            go_ret
            exact ⟨none, by rw [if_pos rfl, HM.out]; rfl, rfl, HG3.out, fun r h => by cases h⟩
          | some r =>
            obtain ⟨rd, rm⟩ := r
            have hkm : kk = (mk : Int) := by
              by_cases e : kk = (mk : Int)
              · exact e
              · rw [if_neg e] at ho; cases ho
            rw [if_pos hkm] at ho
            obtain ⟨r1, r2, r3, r4⟩ := metN_in l f mk (rd, rm) ho.symm
            simp only at r1 r2 r3 r4
            have hnew : metL (metN l f) (ks.drop (j + 1)) rm (max dp rd) = R := by
              have h9 := HRR.out
              rw [if_pos hkm, ← ho] at h9
              exact h9
            have HNEW := zH hnew
            have rd0 : ((rd : Int) == 0) = false := by simp; omega
            have rd1 : ¬ (rd : Int) = 0 := by omega
            have rd5 : (rd : Int) ≤ 5000 := by have := HLEN.out; omega
            have R256 : Hid (rd ≤ 256 ∧ m + 1 ≤ rm ∧ rm ≤ l.length) := zH ⟨by have := HLEN.out; omega, by have := hbd.out; omega, r2⟩
            have HDB := hbd
            clear ho hkm hnew r1 r2 r3 r4 hbd hB hg
            go_wp2_with fail
            go_roundw
            case rel =>
              refine ⟨j + 1, max dp rd, rm, by omega, ?_, by go_num, zH ⟨by have := HDB.out; have := R256.out; omega, R256.out.2⟩, HG3, zH (HB3.out _ rfl), HNEW⟩
              congr 1
              rcases Nat.le_total dp rd with h | h
              · rw [Nat.max_eq_right h]; first | omega | exact Int.max_eq_right (by omega)
              · rw [Nat.max_eq_left h]; first | omega | exact Int.max_eq_left (by omega)
            case measure => simp [intOf]; omega
        · obtain rfl : j = kn := by omega
          have hR0 : R = some (dp, mk) := by
            have h9 := hrest.out
            rw [List.drop_of_length_le (by rw [HKN.out]; exact Nat.le_refl _)] at h9
            simp only [metL] at h9
            exact h9.symm
          subst hR0
          have djj : decide (j < j) = false := by simp
          have HBk := hB
          have HGk := hg
          clear hlt2 hrest hB hg
          go_wp2_with fail
          go_ret
          exact ⟨some (dp + 1, mk), by rw [if_pos rfl, HM.out]; rfl, by show Ending.returned _ = _; rfl, HGk.out, fun r h => by injection h with h; subst h; exact HBk.out⟩
theorem right_e {l : List ND} {v : Value} (w w0 : World) (hs : SlR w0 w0.heap.size 4 (ND.Is w0 w0.heap.size) v l) (hok : ∀ d ∈ l, NdOk d) (hm : Marks w0) (hp : Pow w0) (hw : Below w0.heap.size w0 w) :
    Calls Tryz.prog 13 #[.agg #[v]] w fun e w' => e = .returned (.int .i64 (rightE l : Int)) ∧ Below w.heap.size w w' := by
  have hmf : ∀ (fn : Fn) (first cap : Array Value) (w : World), (Instr.makeFunc fn first cap).run Tryz.prog w = .ok (.func fn first cap) w := fun _ _ _ _ => rfl
  obtain ⟨a, c, rfl⟩ : ∃ a c, v = .slice a l.length c := by obtain ⟨a, c, h, _⟩ := hs.form; exact ⟨a, c, h⟩
  have hn63 : l.length ≤ 9223372036854775807 := by have := hs.caps; unfold maxLen at this; omega
  have hsz := hw.size
  by_cases hbig : 256 < l.length
  · have hv : rightE l = 4 := by unfold rightE; rw [if_pos hbig]
    rw [hv]
    have B1 : Hid (Below w.heap.size w (w.alloc (.cells #[.slice a l.length c] 37))) := zH (zB.alloc zL _)
    obtain ⟨n, hlen⟩ : ∃ n, l.length = n := ⟨_, rfl⟩
    rw [hlen] at hbig hn63 B1 ⊢
    have d1 : decide ((256 : Int) < (n : Int)) = true := by simp; omega
    have d2 : decide (256 < n) = true := by simpa using hbig
    clear hs hok hm hp hw hlen hv hbig
    go_enter Tryz.func13, Tryz.ntmps13
    go_wp2_with fail
    go_ret
    exact ⟨rfl, B1.out⟩
  · have hle : l.length ≤ 256 := by omega
    have HM := zH (fun Ws hl hb1 h0 h2 n0 n2 (hB : Blk Ws (w.heap.size + 1) 3 #[.int .i64 0]) => rmet_any w0 Ws w.heap.size (w.heap.size + 1) (w.heap.size + 1 + 1) hs hok hle hm hp hl hb1 h0 h2 n0 n2 l.length 0 (by omega) 0 Ws (World.grownBy.refl _ _) hB)
    have HW := zH hw
    have hv : rightE l = match metN l l.length 0 with | none => 80 | some r => if r.2 ≠ l.length then 80 else if 32 < r.1 then 4 else 0 := by unfold rightE; rw [if_neg hbig]; rfl
    have HV := zH hv
    have HIN := zH (metN_in l l.length 0)
    have HLE := zH hle
    have d1 : decide ((256 : Int) < (l.length : Int)) = false := by simp; omega
    have d2 : decide (256 < l.length) = false := by simpa using hbig
    clear hs hok hm hp hw hv hbig hle
    go_enter Tryz.func13, Tryz.ntmps13
    go_wp2_with (first
      | (go_at_call 27
         refine (HM.out _ (((HW.out.alloc HW.out.size _).alloc (below2 HW.out.size) _).alloc (below3 HW.out.size) _) (by omega) ((((Blk.new w _ _).alloc _).alloc _).cell (i := 0) rfl) ((Blk.new_ (by simp) _ _).cell (i := 0) rfl) (by omega) (by omega) ((Blk.new_ (by simp) _ _).alloc _)).mono ?_
         rintro e w1 ⟨o, ho, rfl, hg, hm'⟩
         have HB : Hid (Below w.heap.size w w1) := zH ((((zB.alloc zL _).alloc (below2 zL) _).alloc (below3 zL) _).grown hg (by simp; omega) (fun k hk => by injection hk with hk; omega))
         have hc : w1.cell? ⟨w.heap.size, 0, none⟩ = some (.slice a l.length c) := cell_grown hg ((((Blk.new w _ _).alloc _).alloc _).cell (i := 0) rfl) (by simp)
         have ho' : o = metN l l.length 0 := by rw [ho]; exact if_pos (by simp)
         have hd : (o = none ∧ rightE l = 80) ∨ (∃ rd rm : Nat, o = some (rd, rm) ∧ rightE l = 80 ∧ ((rd : Int) == 0) = false ∧ ¬ (rd : Int) = 0 ∧ ((rm : Int) != (l.length : Int)) = true ∧ w1.cell? ⟨w.heap.size + 1, 0, none⟩ = some (.int .i64 (rm : Int))) ∨
             (∃ rd : Nat, o = some (rd, l.length) ∧ rightE l = 4 ∧ ((rd : Int) == 0) = false ∧ ¬ (rd : Int) = 0 ∧ decide (32 < rd) = true ∧ decide ((32 : Int) < (rd : Int)) = true ∧ w1.cell? ⟨w.heap.size + 1, 0, none⟩ = some (.int .i64 (l.length : Int))) ∨
             (∃ rd : Nat, o = some (rd, l.length) ∧ rightE l = 0 ∧ ((rd : Int) == 0) = false ∧ ¬ (rd : Int) = 0 ∧ decide (32 < rd) = false ∧ decide ((32 : Int) < (rd : Int)) = false ∧ w1.cell? ⟨w.heap.size + 1, 0, none⟩ = some (.int .i64 (l.length : Int))) := by
           rw [HV.out, ← ho']
           rcases o with _ | ⟨rd, rm⟩
           · exact .inl ⟨rfl, rfl⟩
           · obtain ⟨k1, k2, k3, k4⟩ := HIN.out _ ho'.symm
             simp only at k1 k2 k3 k4
             have q1 := (hm' _ rfl).cell (i := 0) rfl
             have r0 : ((rd : Int) == 0) = false := by simp; omega
             have r1 : ¬ (rd : Int) = 0 := by omega
             by_cases h1 : rm = l.length
             · subst h1
               by_cases h2 : 32 < rd
               · exact .inr (.inr (.inl ⟨rd, rfl, by simp [h2], r0, r1, by simpa using h2, by simp; omega, q1⟩))
               · exact .inr (.inr (.inr ⟨rd, rfl, by simp [h2], r0, r1, by simpa using h2, by simp; omega, q1⟩))
             · exact .inr (.inl ⟨rd, rm, rfl, by simp [h1], r0, r1, by rw [bne_iff_ne]; omega, q1⟩)
         clear hg hm' ho ho'
         rcases hd with ⟨rfl, hv⟩ | ⟨rd, rm, rfl, hv, r0, r1, e1, q1⟩ | ⟨rd, rfl, hv, r0, r1, e1, e2, q1⟩ | ⟨rd, rfl, hv, r0, r1, e1, e2, q1⟩))
    all_goals
      rw [hv]
      go_ret
      exact ⟨rfl, HB.out⟩
end Go.Proofs.YtdkoafmgenbkbaaGreatDoor
namespace Go.Proofs.YtdkoafmgenbkbaaGreatDoor
theorem nds_ok {t : Tr} (hg : t.Good) (p : Nat) : ∀ d ∈ ndsT t p, NdOk d := by
  have key : ∀ (n : Nat) (t : Tr), t.size ≤ n → t.Good → ∀ p, ∀ d ∈ ndsT t p, NdOk d := by
    intro n
    induction n with
    | zero => intro t h; have := size_pos t; omega
    | succ n ih =>
      intro t h hg p d hd
      obtain ⟨k, s, v, ks⟩ := t
      obtain ⟨⟨hsh, hb, h1, h2⟩, hk⟩ := hg
      unfold ndsT at hd
      simp only [Tr.flat, List.map_cons] at hd
      rcases List.mem_cons.1 hd with rfl | hd
      · refine ⟨hb, ?_, h1, h2⟩
        have hlen : ks.length = ((placesL ks (p + 1)).map (fun n : Nat => (n : Int))).length := by rw [List.length_map, places_len]
        have := may_text (may_of hlen hsh)
        show s.length ≤ _
        simp only at this
        omega
      · have kl : ∀ (ts : List Tr), sizeL ts ≤ n → GoodL ts → ∀ q, ∀ d ∈ (flatL ts q).map EN.nd, NdOk d := by
          intro ts
          induction ts with
          | nil => intro _ _ q d hd; simp [flatL] at hd
          | cons t ts iht =>
            intro hn hg q d hd
            simp only [sizeL] at hn
            simp only [flatL, List.map_append, List.mem_append] at hd
            rcases hd with hd | hd
            · exact ih t (by omega) hg.1 q d hd
            · exact iht (by omega) hg.2 _ d hd
        simp only [Tr.size] at h
        exact kl ks (by omega) hk _ d hd
  exact key t.size t zL hg p
end Go.Proofs.YtdkoafmgenbkbaaGreatDoor
namespace Go.Proofs.YtdkoafmgenbkbaaGreatDoor
open Go.RowKit
theorem metL_congr {g g' : Nat → Option (Nat × Nat)} (hg : ∀ y r, g y = some r → y < r.2) : ∀ (ks : List Int) (p dp : Nat), (∀ y, p ≤ y → g y = g' y) → metL g ks p dp = metL g' ks p dp
  | [], p, dp, _ => rfl
  | k :: ks, p, dp, h => by
    simp only [metL]
    split
    · rw [← h p zL]
      cases hx : g p with
      | none => rfl
      | some r =>
        have := hg p r hx
        exact metL_congr hg ks r.2 _ (fun y hy => h y (by omega))
    · rfl
theorem met_fuel (l : List ND) : ∀ (f f' x : Nat), l.length ≤ x + f → l.length ≤ x + f' → metN l f x = metN l f' x
  | 0, 0, x, _, _ => rfl
  | 0, f' + 1, x, h, _ => by
    simp only [metN]
    rw [List.getElem?_eq_none (by omega)]
  | f + 1, 0, x, _, h => by
    simp only [metN]
    rw [List.getElem?_eq_none (by omega)]
  | f + 1, f' + 1, x, h, h' => by
    simp only [metN]
    cases l[x]? with
    | none => rfl
    | some d =>
      simp only
      split
      · rw [metL_congr (fun y r hr => (metN_in l f y r hr).1) d.kids (x + 1) 0 (fun y hy => met_fuel l f f' y (by omega) (by omega))]
      · rfl
theorem right_no {l : List ND} (hok : ∀ d ∈ l, NdOk d) {i : Nat} (hi : i < l.length) (h : metN l l.length i = none) (h256 : l.length ≤ 256) : rightE l = 80 := by
  unfold rightE
  rw [if_neg (by omega)]
  cases hr : metN l l.length 0 with
  | none => rfl
  | some r =>
    simp only
    by_cases h2 : r.2 = l.length
    · exfalso
      obtain ⟨t, g1, g2, g3, _⟩ := metN_tree l hok _ _ _ hr
      subst g2
      simp only [Nat.zero_add] at h2
      have hsub : ∀ (t : Tr) (p i : Nat), i < t.size → Stands l t p → t.Good → ∃ f r, metN l f (p + i) = some r := by
        intro t
        suffices H : ∀ (N : Nat) (t : Tr), t.size ≤ N → ∀ (p i : Nat), i < t.size → Stands l t p → t.Good → ∃ f r, metN l f (p + i) = some r from fun p i => H t.size t zL p i
        intro N
        induction N with
        | zero => intro t h; have := size_pos t; omega
        | succ N ih =>
          intro t hN p i hi hs hg
          rcases i with _ | i
          · exact ⟨_, _, (met_of t t.size p zL hg hs).1⟩
          · obtain ⟨k, s, nm, ks⟩ := t
            have hs' := hs
            unfold Stands ndsT at hs
            simp only [Tr.size, Tr.flat, List.map_cons] at hs hi hN
            have htl : StandsL l ks (p + 1) := by
              have := congrArg (List.drop 1) hs
              unfold StandsL ndsL
              rw [List.drop_take, List.drop_drop, Nat.add_sub_cancel_left] at this
              exact this
            have kl : ∀ (ts : List Tr), sizeL ts ≤ N → GoodL ts → ∀ q j, j < sizeL ts → StandsL l ts q → ∃ f r, metN l f (q + j) = some r := by
              intro ts
              induction ts with
              | nil => intro _ _ q j hj; simp [sizeL] at hj
              | cons t ts iht =>
                intro hn hg q j hj hst
                simp only [sizeL] at hn hj
                unfold StandsL ndsL at hst
                simp only [sizeL, flatL, List.map_append] at hst
                rw [List.take_add] at hst
                have hln : ((l.drop q).take t.size).length = ((t.flat q).map EN.nd).length := by
                  have := congrArg List.length hst
                  simp only [List.length_append, List.length_take, List.length_drop, List.length_map, trFlat_len, trFlatL_len] at this ⊢
                  omega
                obtain ⟨e1, e2⟩ := List.append_inj hst hln
                rw [List.drop_drop] at e2
                by_cases hj2 : j < t.size
                · exact ih t (by omega) q j hj2 e1 hg.1
                · obtain ⟨f, r, hfr⟩ := iht (by omega) hg.2 (q + t.size) (j - t.size) (by omega) e2
                  exact ⟨f, r, by rw [← hfr]; congr 1; omega⟩
            obtain ⟨f, r, hfr⟩ := kl ks (by omega) hg.2 (p + 1) i (by omega) htl
            exact ⟨f, r, by rw [← hfr]; congr 1; omega⟩
      obtain ⟨f, r, hfr⟩ := hsub t 0 i (by omega) g3 g1
      rw [Nat.zero_add] at hfr
      have hin := metN_in l f i r hfr
      have mono : ∀ (f' : Nat), f ≤ f' → metN l f' i = some r := by
        intro f' hf
        have hm : ∀ (a b x : Nat) (q : Nat × Nat), a ≤ b → metN l a x = some q → metN l b x = some q := by
          intro a
          induction a with
          | zero => intro b x q _ h; simp only [metN] at h; cases h
          | succ a iha =>
            intro b x q hb h
            obtain ⟨b, rfl⟩ : ∃ c, b = c + 1 := ⟨b - 1, by omega⟩
            simp only [metN] at h ⊢
            cases hd : l[x]? with
            | none => rw [hd] at h; cases h
            | some d =>
              rw [hd] at h
              simp only at h ⊢
              split at h
              · rename_i hmay
                rw [if_pos hmay]
                obtain ⟨z, hz, rfl⟩ := Option.map_eq_some_iff.1 h
                have hml : ∀ (ks : List Int) (p dp : Nat) (z : Nat × Nat), metL (metN l a) ks p dp = some z → metL (metN l b) ks p dp = some z := by
                  intro ks
                  induction ks with
                  | nil => intro p dp z h; exact h
                  | cons k ks ihk =>
                    intro p dp z h
                    simp only [metL] at h ⊢
                    split at h
                    · rename_i e
                      rw [if_pos e]
                      cases hg : metN l a p with
                      | none => rw [hg] at h; cases h
                      | some w =>
                        rw [hg] at h
                        rw [iha b p w (by omega) hg]
                        exact ihk _ _ _ h
                    · cases h
                rw [hml _ _ _ _ hz]
                rfl
              · cases h
        exact hm f f' i r hf hfr
      have := mono (max f l.length) (by omega)
      rw [met_fuel l (max f l.length) l.length i (by omega) (by omega), h] at this
      cases this
    · rw [if_pos h2]
end Go.Proofs.YtdkoafmgenbkbaaGreatDoor
