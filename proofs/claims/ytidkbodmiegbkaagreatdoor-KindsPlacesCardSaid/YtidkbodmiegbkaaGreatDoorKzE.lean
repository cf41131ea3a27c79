/- Chapter 09, outright: one node above an expression, walked. -/
import Derived.Test.YtidkbodmiegbkaaGreatDoorKzD
import Derived.Deep.CutRange
namespace Go.Proofs.YtidkbodmiegbkaaGreatDoor
set_option linter.unusedSimpArgs false
set_option linter.unusedVariables false
open Go.RowKit

theorem info_I7 : (Tryz.prog.info? 3).map (fun i => (i.zero, i.size, i.bytes)) = some (some (.int .i64 0), 1, 8) := by kernel_rfl
/-- a row of the call's own out of one block of one element -/
theorem own_one {α : Type} {W : World} {base g size : Nat} {e : TypeId} {R : List Value → α → Prop} {x : List Value} {y : α} (h : Blk W g e x.toArray) (hb : base ≤ g) (hl : x.length = size) (hR : R x y) : Own1 W base e size R (.slice (some ⟨g, 0, none⟩) 1 1) [y] := by
  refine ⟨x, ⟨by simp [hl], .inr ⟨g, 1, x.toArray, rfl, hb, h, Nat.le_refl _, by unfold maxLen; omega, by simp [hl], by simp [hl]; exact List.take_of_length_le (by omega)⟩⟩, FlatR.one hl hR⟩
/-- the list of one node above a list -/
def aboveN (ask : Nat) (l : List ND) : List ND := ⟨(ask : Int), [], 0, [1]⟩ :: l.map (forthD 1)
set_option maxRecDepth 100000 in
set_option maxHeartbeats 16000000 in
theorem above_any {l : List ND} {v : Value} (ask : Nat) (w w0 : World) (hs : SlR w0 w0.heap.size 4 (ND.Is w0 w0.heap.size) v l) (hl : l.length ≤ 256) (hk : ∀ d ∈ l, d.kids.length ≤ 3 ∧ ∀ x ∈ d.kids, 0 ≤ x ∧ x ≤ 256) (hw : Below w0.heap.size w0 w) :
    Calls Tryz.prog 10 #[.int .i64 (ask : Int), .agg #[v]] w fun e w' => ∃ (a : Option Addr) (c : Nat) (es : List (ND × Value)), e = .returned (.agg #[.slice a (l.length + 1) c]) ∧ NL w' (w.heap.size + 2) (.slice a (l.length + 1) c) es ∧ es.map (·.1) = aboveN ask l ∧ Below w.heap.size w w' := by
  obtain ⟨a, c, rfl⟩ : ∃ a c, v = .slice a l.length c := by obtain ⟨a, c, h, _⟩ := hs.form; exact ⟨a, c, h⟩
  obtain ⟨n, hn⟩ : ∃ n, l.length = n := ⟨_, rfl⟩
  rw [hn] at hs hl ⊢
  have HN := Lib.hid hn
  have HS := Lib.hid hs
  have HW := Lib.hid hw
  have HKB := Lib.hid hk
  have n0 : (0 : Int) ≤ (n : Int) := Int.natCast_nonneg _
  obtain ⟨jE, hi, hz, hs2, hby⟩ := info_parts info_enode
  have IE := Lib.hid (And.intro hi (And.intro hz (And.intro hs2 hby)))
  clear hi hz hs2 hby
  obtain ⟨jI, hi, hz, hs2, hby⟩ := info_parts info_I7
  have II := Lib.hid (And.intro hi (And.intro hz (And.intro hs2 hby)))
  clear hi hz hs2 hby hs hw hn hk
  go_enter Tryz.func10, Tryz.ntmps10
  go_upto_region 3 with fail
  have KE : Hid (Blk ((((w.alloc (.cells #[.slice a n c] 24)).alloc (.cells #[.slice none 0 0] 24)).alloc (.cells #[.int .i64 1] 3)).alloc (.cells #[.int .i64 (ask : Int), .string ⟨#[]⟩, .int .i64 0, .slice (some ⟨w.heap.size + 1 + 1, 0, none⟩) 1 1] 40)) w.heap.size 24 #[.slice a n c]) := Lib.hid ((((Blk.new _ _ _).alloc _).alloc _).alloc _)
  have KR : Hid (Blk ((((w.alloc (.cells #[.slice a n c] 24)).alloc (.cells #[.slice none 0 0] 24)).alloc (.cells #[.int .i64 1] 3)).alloc (.cells #[.int .i64 (ask : Int), .string ⟨#[]⟩, .int .i64 0, .slice (some ⟨w.heap.size + 1 + 1, 0, none⟩) 1 1] 40)) (w.heap.size + 1) 24 #[.slice none 0 0]) := Lib.hid (((Blk.new_ (by simp) _ _).alloc _).alloc _)
  have KI : Hid (Blk ((((w.alloc (.cells #[.slice a n c] 24)).alloc (.cells #[.slice none 0 0] 24)).alloc (.cells #[.int .i64 1] 3)).alloc (.cells #[.int .i64 (ask : Int), .string ⟨#[]⟩, .int .i64 0, .slice (some ⟨w.heap.size + 1 + 1, 0, none⟩) 1 1] 40)) (w.heap.size + 1 + 1) 3 #[.int .i64 1]) := Lib.hid ((Blk.new_ (by simp) _ _).alloc _)
  have KN : Hid (Blk ((((w.alloc (.cells #[.slice a n c] 24)).alloc (.cells #[.slice none 0 0] 24)).alloc (.cells #[.int .i64 1] 3)).alloc (.cells #[.int .i64 (ask : Int), .string ⟨#[]⟩, .int .i64 0, .slice (some ⟨w.heap.size + 1 + 1, 0, none⟩) 1 1] 40)) (w.heap.size + 1 + 1 + 1) 40 #[.int .i64 (ask : Int), .string ⟨#[]⟩, .int .i64 0, .slice (some ⟨w.heap.size + 1 + 1, 0, none⟩) 1 1]) := Lib.hid (Blk.new_ (by simp) _ _)
  have B0 : Hid (Below w.heap.size w ((((w.alloc (.cells #[.slice a n c] 24)).alloc (.cells #[.slice none 0 0] 24)).alloc (.cells #[.int .i64 1] 3)).alloc (.cells #[.int .i64 (ask : Int), .string ⟨#[]⟩, .int .i64 0, .slice (some ⟨w.heap.size + 1 + 1, 0, none⟩) 1 1] 40))) := Lib.hid (((((Below.refl _ _).alloc (Nat.le_refl _) _).alloc (by simp) _).alloc (by simp <;> omega) _).alloc (by simp <;> omega) _)
  have Z0 : Hid (((((w.alloc (.cells #[.slice a n c] 24)).alloc (.cells #[.slice none 0 0] 24)).alloc (.cells #[.int .i64 1] 3)).alloc (.cells #[.int .i64 (ask : Int), .string ⟨#[]⟩, .int .i64 0, .slice (some ⟨w.heap.size + 1 + 1, 0, none⟩) 1 1] 40)).heap.size = w.heap.size + 4) := Lib.hid (by simp)
  generalize hW1 : ((((w.alloc (.cells #[.slice a n c] 24)).alloc (.cells #[.slice none 0 0] 24)).alloc (.cells #[.int .i64 1] 3)).alloc (.cells #[.int .i64 (ask : Int), .string ⟨#[]⟩, .int .i64 0, .slice (some ⟨w.heap.size + 1 + 1, 0, none⟩) 1 1] 40)) = W1 at *
  clear hW1
  have NL0 : Hid (NL W1 (w.heap.size + 2) (.slice (some ⟨w.heap.size + 1 + 1 + 1, 0, none⟩) 1 1) [(⟨(ask : Int), [], 0, [1]⟩, .slice (some ⟨w.heap.size + 1 + 1, 0, none⟩) 1 1)]) := Lib.hid ⟨own_one (x := [.int .i64 (ask : Int), .string ⟨#[]⟩, .int .i64 0, .slice (some ⟨w.heap.size + 1 + 1, 0, none⟩) 1 1]) KN.out (by omega) rfl ⟨rfl, _, _, _, rfl⟩, fun i p hp => by
    rcases i with _ | i
    · simp at hp
      subst hp
      exact own_one (x := [.int .i64 1]) KI.out (by omega) rfl rfl
    · simp at hp⟩
  obtain ⟨qe, hqe⟩ : ∃ z, w.heap.size = z := ⟨_, rfl⟩
  have HQE := Lib.hid hqe
  rw [hqe] at KE KR NL0 Z0 ⊢
  clear KI KN hqe
  go_loopw [5, 6, 7, 8] (fun v5 v6 _ _ wr => ∃ (j : Nat) (oa : Option Addr) (oc : Nat) (es : List (ND × Value)), j ≤ n ∧ v5 = .slice oa (j + 1) oc ∧ v6 = .int .i64 (j : Int) ∧ Hid (es.map (·.1) = ⟨(ask : Int), [], 0, [1]⟩ :: (l.take j).map (forthD 1) ∧ NL wr (qe + 2) (.slice oa (j + 1) oc) es ∧ Blk wr qe 24 #[.slice a n c] ∧ Blk wr (qe + 1) 24 #[.slice none 0 0] ∧ Below w.heap.size w wr)) (fun _ v6 _ _ _ => n - (intOf v6).toNat)
  case atStart => exact ⟨0, _, _, _, Nat.zero_le _, rfl, rfl, Lib.hid ⟨by simp, NL0.out, KE.out, KR.out, B0.out⟩⟩
  case round =>
    obtain ⟨j, oa, oc, es, hj, rfl, rfl, hr⟩ := hrel
    have HES := Lib.hid hr.out.1
    have HEL := Lib.hid hr.out.2.1
    have KE1 := Lib.hid hr.out.2.2.1
    have KR1 := Lib.hid hr.out.2.2.2.1
    have HB1 := Lib.hid hr.out.2.2.2.2
    clear hr NL0 KE KR B0
    obtain ⟨wo, hwo⟩ : ∃ W, W = wr := ⟨wr, rfl⟩
    subst hwo
    have e0 : wo.cell? ⟨qe, 0, none⟩ = some (.slice a n c) := KE1.out.cell (i := 0) rfl
    have le : qe < wo.heap.size := KE1.out.lt
    have HSZ : Hid (qe + 2 ≤ wo.heap.size) := Lib.hid (by have := KR1.out.lt; omega)
    have j0 : (0 : Int) ≤ (j : Int) := Int.natCast_nonneg _
    by_cases hlt : j < n
    · obtain ⟨d, hd⟩ := get_some HN.out hlt
      have hwr : Below w0.heap.size w0 wo := HW.out.trans (HB1.out.mono HW.out.size)
      obtain ⟨bN, off, x, rfl, hbN, _, ⟨kv, rfl, hks⟩, hx⟩ := HS.out.at_ hd
      obtain ⟨ka, kc, rfl, _⟩ := hks.form
      obtain ⟨hk3, hkx⟩ := HKB.out d (List.mem_iff_getElem?.2 ⟨j, hd⟩)
      obtain ⟨kn, hkn⟩ : ∃ z, d.kids.length = z := ⟨_, rfl⟩
      rw [hkn] at hks hx hk3
      have HX : Hid (∀ W, Below w0.heap.size w0 W → W.cell? ⟨bN, off + j * 4, none⟩ = some (.int .i64 d.kind) ∧ W.cell? ⟨bN, off + j * 4 + 1, none⟩ = some (.string (txt d.text)) ∧ W.cell? ⟨bN, off + j * 4 + 2, none⟩ = some (.int .i64 d.num) ∧ W.cell? ⟨bN, off + j * 4 + 3, none⟩ = some (.slice ka kn kc)) := Lib.hid (fun W hW => ⟨(hW.cell (p := ⟨bN, off + j * 4, none⟩) hbN).trans (hx 0 _ rfl), (hW.cell (p := ⟨bN, off + j * 4 + 1, none⟩) hbN).trans (hx 1 _ rfl), (hW.cell (p := ⟨bN, off + j * 4 + 2, none⟩) hbN).trans (hx 2 _ rfl), (hW.cell (p := ⟨bN, off + j * 4 + 3, none⟩) hbN).trans (hx 3 _ rfl)⟩)
      obtain ⟨x0, x1, x2, x3⟩ := HX.out wo hwr
      have HWO := Lib.hid hwr
      have lbN : bN < wo.heap.size := Nat.lt_of_lt_of_le hbN hwr.size
      have HKS := Lib.hid hks
      have HKN := Lib.hid hkn
      have HKX := Lib.hid hkx
      have HD := Lib.hid hd
      have jn : (j : Int) < (n : Int) := by omega
      have kn3 : (kn : Int) ≤ 3 := by omega
      have HEN : Hid (es.length = j + 1) := Lib.hid (by have := congrArg List.length HES.out; rw [List.length_map, List.length_cons, List.length_map, List.length_take, HN.out] at this; omega)
      clear hd hks hkn hkx hx hwr
      go_upto_region 8 with fail
      have KQ : Hid (Blk (wo.alloc (.cells #[.int .i64 d.kind, .string (txt d.text), .int .i64 d.num, .slice none 0 0] 40)) wo.heap.size 40 #[.int .i64 d.kind, .string (txt d.text), .int .i64 d.num, .slice none 0 0]) := Lib.hid (Blk.new _ _ _)
      have BQ : Hid (Below wo.heap.size wo (wo.alloc (.cells #[.int .i64 d.kind, .string (txt d.text), .int .i64 d.num, .slice none 0 0] 40))) := Lib.hid ((Below.refl _ _).alloc (Nat.le_refl _) _)
      have ZQ : Hid ((wo.alloc (.cells #[.int .i64 d.kind, .string (txt d.text), .int .i64 d.num, .slice none 0 0] 40)).heap.size = wo.heap.size + 1) := Lib.hid (by simp)
      generalize hW2 : (wo.alloc (.cells #[.int .i64 d.kind, .string (txt d.text), .int .i64 d.num, .slice none 0 0] 40)) = W2 at *
      clear hW2
      obtain ⟨q, hq⟩ : ∃ z, wo.heap.size = z := ⟨_, rfl⟩
      have HQ := Lib.hid hq
      have leq : qe < q := by rw [← hq]; exact le
      have lbq : bN < q := by rw [← hq]; exact lbN
      rw [hq] at KQ ZQ ⊢
      clear hq e0 x0 x1 x2 x3 le lbN
      go_loopw [8] (fun v8 wr => ∃ (k : Nat) (ra : Option Addr) (rc : Nat), k ≤ kn ∧ v8 = .int .i64 (k : Int) ∧ Hid (Own1 wr (q + 1) 3 1 IsI (.slice ra k rc) ((d.kids.take k).map (· + 1)) ∧ Blk wr q 40 #[.int .i64 d.kind, .string (txt d.text), .int .i64 d.num, .slice ra k rc] ∧ Below wo.heap.size wo wr)) (fun v8 _ => kn - (intOf v8).toNat)
      case atStart => exact ⟨0, none, 0, Nat.zero_le _, rfl, Lib.hid ⟨⟨[], ⟨rfl, .inl ⟨rfl, rfl⟩⟩, FlatR.nil_⟩, KQ.out, BQ.out⟩⟩
      case round =>
        obtain ⟨k, ra, rc, hk, rfl, hr⟩ := hrel
        have OK := Lib.hid hr.out.1
        have KQ1 := Lib.hid hr.out.2.1
        have BO := Lib.hid hr.out.2.2
        clear hr KQ BQ ZQ
        have e0 : wr.cell? ⟨qe, 0, none⟩ = some (.slice (some ⟨bN, off, none⟩) n c) := (KE1.out.below BO.out KE1.out.lt).cell (i := 0) rfl
        have HWR : Hid (Below w0.heap.size w0 wr) := Lib.hid (HWO.out.trans (BO.out.mono HWO.out.size))
        obtain ⟨x0, x1, x2, x3⟩ := HX.out wr HWR.out
        have q3 : wr.cell? ⟨q, 3, none⟩ = some (.slice ra k rc) := KQ1.out.cell (i := 3) rfl
        have lqr : q < wr.heap.size := KQ1.out.lt
        have ler : qe < wr.heap.size := by omega
        have lbr : bN < wr.heap.size := by omega
        have k0 : (0 : Int) ≤ (k : Int) := Int.natCast_nonneg _
        by_cases hlk : k < kn
        · obtain ⟨y, hy⟩ := get_some HKN.out hlk
          obtain ⟨bK, ok, xk, rfl, hbK, _, rfl, hxk⟩ := HKS.out.at_ hy
          have yk := (HWR.out.cell (p := ⟨bK, ok + k * 1, none⟩) hbK).trans (hxk 0 _ rfl)
          simp only [Nat.add_zero, Nat.mul_one] at yk
          have lbk : bK < wr.heap.size := Nat.lt_of_lt_of_le hbK HWR.out.size
          obtain ⟨y0, y1⟩ := HKX.out y (List.mem_iff_getElem?.2 ⟨k, hy⟩)
          have kk1 : (k : Int) < (kn : Int) := by omega
          have wy : IntKind.i64.wrap (y + 1) = y + 1 := by rw [IntKind.wrap_i64]; omega
          have HKT : Hid (((d.kids.take k).map (· + 1)).length = k ∧ (d.kids.take (k + 1)).map (· + 1) = (d.kids.take k).map (· + 1) ++ [y + 1]) := Lib.hid ⟨by rw [List.length_map, List.length_take, HKN.out]; omega, by rw [List.take_add_one, hy]; simp⟩
          have HLK := Lib.hid hlk
          have zq := KQ1.out.frozen 3
          clear hy hxk hlk hbK
          go_upto_region 10 with fail
          go_region_law (first
            | (skip
               go_must (refine step_append_list rfl (.tmp 38) (.tmp 49) _ (by rfl) (q + 1) (wr.heap.size + 1) 3 jI _ 1 8 Tryz.underlying33 II.out.1 II.out.2.1 II.out.2.2.1 II.out.2.2.2 rfl (by omega) (R := IsI) (l := (d.kids.take k).map (· + 1)) (m := [y + 1]) (.slice ra k rc) (by go_simp) (by exact (OK.out.alloc (.cells #[.int .i64 (y + 1)] 3)).drew) (some ⟨wr.heap.size, 0, none⟩) 1 1 (by go_simp) (by exact SlR.new1 (w := wr) (e := 3) (g := wr.heap.size) rfl (x := [.int .i64 (y + 1)]) rfl (R := IsI) (y := y + 1) rfl) (k + 1) (by rw [HKT.out.1]) IsI.one (by have := HKT.out.1; unfold maxLen; simp at this ⊢; omega) (by have := HKT.out.1; simp at this ⊢; omega) (by simp; omega) ?_)
               intro xa xc w5 hown hgr
               go_must (have K5 := ((KQ1.out.alloc (.cells #[.int .i64 (y + 1)] 3)).drwC).grown hgr (fun e => by have := (OK.out.block q e.symm).1; omega))
               go_must (have B5 := Lib.hid (((BO.out.alloc BO.out.size (.cells #[.int .i64 (y + 1)] 3)).drew).grown hgr (by have := BO.out.size; simp; omega) (fun b hb => by have := (OK.out.block b hb).1; have := HQ.out; omega)))
               have m5 : w5.cell? ⟨q, 3, none⟩ = some (.slice ra k rc) := K5.cell (i := 3) rfl
               have z5 := K5.frozen 3
               have KQ5 := Lib.hid K5
               have OW5 := Lib.hid hown
               clear K5 hown hgr)
            | fail)
          all_goals
            go_wp2_with fail
            go_roundw
            case rel => exact ⟨k + 1, xa, xc, HLK.out, by go_num, Lib.hid ⟨by rw [HKT.out.2]; exact OW5.out.setFar (p := ⟨q, 3, none⟩) (Nat.lt_succ_self _) _, KQ5.out.set_ 3 _, B5.out.setCell (p := ⟨q, 3, none⟩) (by show wo.heap.size ≤ q; have := HQ.out; omega) _⟩⟩
            case measure => simp [intOf]; have := HLK.out; omega
        · have hkk : k = kn := by omega
          have HTK : Hid ((d.kids.take k).map (· + 1) = (forthD 1 d).kids) := Lib.hid (by rw [List.take_of_length_le (by rw [HKN.out, hkk]; exact Nat.le_refl _)]; rfl)
          have dkk : decide ((k : Int) < (kn : Int)) = false := by rw [hkk]; simp
          have dkk2 : decide (k < kn) = false := by rw [hkk]; simp
          have q0 : wr.cell? ⟨q, 0, none⟩ = some (.int .i64 d.kind) := KQ1.out.cell (i := 0) rfl
          have q1 : wr.cell? ⟨q, 1, none⟩ = some (.string (txt d.text)) := KQ1.out.cell (i := 1) rfl
          have q2 : wr.cell? ⟨q, 2, none⟩ = some (.int .i64 d.num) := KQ1.out.cell (i := 2) rfl
          have HNR : Hid (NL wr (qe + 2) (.slice oa (j + 1) oc) es) := Lib.hid (HEL.out.below BO.out)
          have HLT := Lib.hid hlt
          clear hlk hkk hlt
          go_wp2_with (first
            | (at_builtin
               go_must (refine wpList_append_list rfl (.tmp 52) (.tmp 54) _ (by rfl) (qe + 2) (wr.heap.size + 1) 40 jE _ 4 56 Tryz.underlying22 IE.out.1 IE.out.2.1 IE.out.2.2.1 IE.out.2.2.2 rfl (by omega) (R := IsNDv) (l := es) (m := [(forthD 1 d, .slice ra k rc)]) (.slice oa (j + 1) oc) (by rfl) (by exact (HNR.out.alloc (.cells #[.int .i64 d.kind, .string (txt d.text), .int .i64 d.num, .slice ra k rc] 40)).main) (some ⟨wr.heap.size, 0, none⟩) 1 1 (by rfl) (SlR.new1 (w := wr) (e := 40) (g := wr.heap.size) rfl (x := [.int .i64 d.kind, .string (txt d.text), .int .i64 d.num, .slice ra k rc]) rfl (R := IsNDv) (y := (forthD 1 d, .slice ra k rc)) ⟨rfl, _, _, _, rfl⟩) (j + 1 + 1) (by rw [HEN.out]) IsNDv.one (by have := HEN.out; unfold maxLen; simp at this ⊢; omega) (by have := HEN.out; simp at this ⊢; omega) (by simp; omega) ?_)
               intro oa2 oc2 w5 hown hgr
               have O5 := Lib.hid (And.intro hown hgr)
               clear hown hgr)
            | fail)
          go_roundw
          case rel =>
            have KV : Own1 (wr.alloc (.cells #[.int .i64 d.kind, .string (txt d.text), .int .i64 d.num, .slice ra k rc] 40)) (qe + 2) 3 1 IsI (.slice ra k rc) (forthD 1 d).kids := by rw [← HTK.out]; exact (OK.out.alloc _).mono (by have := HQ.out; have := HSZ.out; omega)
            have hno : ∀ b, (Value.slice oa (j + 1) oc).ownBlock = some b → qe + 2 ≤ b := fun b hb => (HNR.out.main.block b hb).1
            refine ⟨j + 1, oa2, oc2, es ++ [(forthD 1 d, .slice ra k rc)], HLT.out, rfl, by go_num, Lib.hid ⟨?_, (HNR.out.alloc _).push KV O5.out.1 O5.out.2, ?_, ?_, ?_⟩⟩
            · rw [List.map_append, HES.out, List.take_add_one, HD.out]
              simp
            · exact ((KE1.out.below BO.out KE1.out.lt).alloc _).grown O5.out.2 (fun e => by have := hno qe e.symm; omega)
            · exact ((KR1.out.below BO.out KR1.out.lt).alloc _).grown O5.out.2 (fun e => by have := hno (qe + 1) e.symm; omega)
            · exact ((HB1.out.trans (BO.out.mono HB1.out.size)).alloc (by have := HB1.out.size; have := BO.out.size; omega) _).grown O5.out.2 (by have := HB1.out.size; have := BO.out.size; simp; omega) (fun b hb => by have := hno b hb; have := HQE.out; omega)
          case measure => simp [intOf]; have := HLT.out; omega
    · have hjn : j = n := by omega
      subst hjn
      have dkk : decide ((j : Int) < (j : Int)) = false := by simp
      have hall : l.take j = l := List.take_of_length_le (by rw [HN.out]; exact Nat.le_refl _)
      have HAL := Lib.hid hall
      have r0 : wo.cell? ⟨qe + 1, 0, none⟩ = some (.slice none 0 0) := KR1.out.cell (i := 0) rfl
      have zr := KR1.out.frozen 0
      have lr := KR1.out.lt
      clear hlt hall
      go_wp2_with fail
      generalize hW9 : World.setCell wo _ _ = W9
      have r9 : W9.cell? ⟨qe + 1, 0, none⟩ = some (.slice oa (j + 1) oc) := by rw [← hW9]; exact (KR1.out.set_ 0 _).cell rfl
      have b9 : Below w.heap.size w W9 := by rw [← hW9]; exact HB1.out.setCell (p := ⟨qe + 1, 0, none⟩) (by have := HQE.out; show w.heap.size ≤ qe + 1; omega) _
      have e9 : NL W9 (qe + 2) (.slice oa (j + 1) oc) es := by rw [← hW9]; exact HEL.out.setFar (p := ⟨qe + 1, 0, none⟩) (by show qe + 1 < qe + 2; omega) _
      refine bodyPost_ret (v := .agg #[.slice oa (j + 1) oc]) (by simp [results, Tryz.results10, go_sem, r9]) rfl ?_
      exact ⟨oa, oc, es, rfl, by rw [HQE.out]; exact e9, by rw [HES.out, HAL.out]; rfl, b9⟩
end Go.Proofs.YtidkbodmiegbkaaGreatDoor
