/- The row has each language once, behind all that it uses: 'topiarylaw24.ModulesAhead' returns true whatever the languages; no condition but the reach. -/
import Derived.Test.YtikplcpghohklaaGreatZAwake
import Derived.Test.YtikplcpghohklaaGreatZ0
import Derived.Test.YtikplcpghohklaaGreatOpen
import Derived.Test.YtikplcpghohklaaGreatRows
import Derived.ProofKit
import Derived.OpenShut
import Derived.ShutString
import Derived.ChangeOld
namespace Go.Proofs.YtikplcpghohklaaGreat
set_option linter.unusedSimpArgs false
set_option linter.unusedVariables false
open Go.RowKit

theorem order_fault {ls : List Language} {v : Value} {f : Flt} (hf : faultN ls = some f) (w w0 : World) (hs : LsR w0 w0.heap.size v ls) (hw : Below w0.heap.size w0 w) :
    Calls Tryz.prog 10 #[v] w fun e w' => e = .returned (.tuple #[.slice none 0 0, .agg #[.int .i64 (f.list : Int), .int .i64 (f.at_ : Int), .int .i64 (f.part : Int), .int .i64 (f.err : Int)]]) ∧ Below w.heap.size w w' :=
  (m_Order w w0 hs hw).mono fun e w' h => by
    unfold MOPost at h
    rw [hf] at h
    exact h
theorem order_none {ls : List Language} {v : Value} (hf : faultN ls = none) (w w0 : World) (hs : LsR w0 w0.heap.size v ls) (hw : Below w0.heap.size w0 w) :
    Calls Tryz.prog 10 #[v] w fun e w' => (∃ a c, e = .returned (.tuple #[.slice a ls.length c, .agg #[.int .i64 0, .int .i64 0, .int .i64 0, .int .i64 0]]) ∧ SlR w' w'.heap.size 1 IsInt (.slice a ls.length c) ((rowN (webN ls)).map fun (n : Nat) => (n : Int))) ∧ Below w.heap.size w w' :=
  (m_Order w w0 hs hw).mono fun e w' h => by
    unfold MOPost at h
    rw [hf] at h
    exact h
/-- the parts of 'no fault', for the row -/
theorem row_facts {ls : List Language} (hf : faultN ls = none) : RowG (webN ls) (rowN (webN ls)) ∧ (rowN (webN ls)).length = ls.length ∧ (∀ n, n < ls.length → ∃ i : Nat, (rowN (webN ls))[i]? = some n) ∧ AllFound ls := by
  have hfo := (found_ok hf).1
  have hac := acyc_of (ring_ok hf)
  have hin : ∀ a b, Edge (webN ls) a b → b < (webN ls).length := by rw [webN_len]; exact webN_in ls hfo
  refine ⟨rowN_good _, by rw [rowN_len hac hin, webN_len], fun n hn => ?_, hfo⟩
  exact List.mem_iff_getElem?.1 (rowN_all hac hin (by rw [webN_len]; exact hn))
set_option maxRecDepth 100000 in
set_option maxHeartbeats 8000000 in
theorem lawA_walk {ls : List Language} {v : Value} (w : World) (hs : LsR w w.heap.size v ls) :
    Calls Tryz.prog 3 #[v] w fun e w' => e = .returned (.bool true) ∧ Below w.heap.size w w' := by
  have HA := Lib.hid (z_awake w)
  have HG := Lib.hid (fun W (hW : Below w.heap.size w W) => great_any W w hs hW)
  obtain ⟨a, c, rfl⟩ : ∃ a c, v = .slice a ls.length c := by obtain ⟨a, c, h, _⟩ := hs.form; exact ⟨a, c, h⟩
  have hcap := hs.caps
  have hn63 : ls.length ≤ 9223372036854775807 := by unfold maxLen at hcap; omega
  have Hs := Lib.hid hs
  cases hf : faultN ls with
  | some f =>
    have hfe := fault_err hf
    have ne1 : ¬ (f.err : Int) = 0 := by omega
    have ne2 : ((f.err : Int) != 0) = true := by simpa using ne1
    have HO := Lib.hid (fun W (hW : Below w.heap.size w W) => order_fault hf W w hs hW)
    clear hf hs hcap hfe
    go_enter Tryz.func3, Tryz.ntmps3
    go_wp2_with (first
      | (go_at_call 8; refine HA.out.mono ?_; rintro e w1 ⟨rfl, hb⟩; have L1 := Lib.hid hb; clear hb)
      | (go_at_call 9; refine (HG.out _ L1.out).mono ?_; rintro e w2 ⟨⟨b, rfl⟩, hb⟩; have L2 : Hid (Below w.heap.size w w2) := Lib.hid (L1.out.trans (hb.mono L1.out.size)); clear hb; cases b)
      | (go_at_call 10; refine (HO.out _ L2.out).mono ?_; rintro e w3 ⟨rfl, hb⟩; have L3 : Hid (Below w.heap.size w w3) := Lib.hid (L2.out.trans (hb.mono L2.out.size)); clear hb))
    all_goals
      go_ret
      first
        | exact ⟨rfl, L3.out.alloc L3.out.size _⟩
        | exact ⟨rfl, L2.out⟩
  | none =>
    obtain ⟨hg, hrl, hall, hfo⟩ := row_facts hf
    have HO := Lib.hid (fun W (hW : Below w.heap.size w W) => order_none hf W w hs hW)
    have Hg := Lib.hid hg
    have Hall := Lib.hid hall
    have Hfo := Lib.hid hfo
    obtain ⟨n, hn⟩ : ∃ n, ls.length = n := ⟨_, rfl⟩
    rw [hn] at HO HG hn63 Hall Hs
    have Hn := Lib.hid hn
    obtain ⟨row, hrow⟩ : ∃ r, rowN (webN ls) = r := ⟨_, rfl⟩
    rw [hrow] at HO Hg Hall
    rw [hn] at hs ⊢
    clear hf hs hcap hg hrl hall hfo hn hrow
    go_enter Tryz.func3, Tryz.ntmps3
    go_wp2_with (first
      | (go_at_call 8; refine HA.out.mono ?_; rintro e w1 ⟨rfl, hb⟩; have L1 := Lib.hid hb; clear hb)
      | (go_at_call 9; refine (HG.out _ L1.out).mono ?_; rintro e w2 ⟨⟨b, rfl⟩, hb⟩; have L2 : Hid (Below w.heap.size w w2) := Lib.hid (L1.out.trans (hb.mono L1.out.size)); clear hb; cases b)
      | (go_at_call 10; refine (HO.out _ L2.out).mono ?_; rintro e w3 ⟨⟨ra, rc, rfl, hS⟩, hb⟩; have L3 : Hid (Below w.heap.size w w3) := Lib.hid (L2.out.trans (hb.mono L2.out.size)); have S3 := Lib.hid hS; clear hb hS))
    rotate_left
    · go_ret
      exact ⟨rfl, L2.out⟩
    generalize hW4 : World.alloc w3 _ = W4
    have L4 : Hid (Below w.heap.size w W4) := Lib.hid (by rw [← hW4]; exact L3.out.alloc L3.out.size _)
    have S4 : Hid (SlR W4 W4.heap.size 1 IsInt (.slice ra n rc) (row.map fun (n : Nat) => (n : Int))) := Lib.hid (by rw [← hW4]; exact (S3.out.below ((Below.refl _ _).alloc (Nat.le_refl _) _)).more (by simp))
    clear hW4 S3
    have HF := Lib.hid (fun s W (q : Quiet W4 W) => z_find s W w Hs.out (L4.out.trans ((q.below _).mono L4.out.size)))
    have HP := Lib.hid (fun m W (q : Quiet W4 W) => z_place m W W4 S4.out (q.below _))
    go_loopw [5, 6, 7, 8] (fun j _ _ _ wr => ∃ k : Nat, k ≤ n ∧ j = .int .i64 (k : Int) ∧ Hid (Quiet W4 wr)) (fun j _ _ _ _ => n - (intOf j).toNat)
    case atStart => exact ⟨0, Nat.zero_le _, rfl, Quiet.refl _⟩
    case round =>
      obtain ⟨k, hk, rfl, hq⟩ := hrel
      have Hq := hq
      clear hq
      by_cases hlt : k < n
      · obtain ⟨l, hd⟩ := get_some Hn.out hlt
        obtain ⟨i, hi⟩ := Hall.out k hlt
        have hpl : firstAt (fun x : Int => decide (x = (k : Int))) (row.map fun (n : Nat) => (n : Int)) = (i : Int) := placeN_at Hg.out.nodup hi
        have HPk := Lib.hid (HP.out (k : Int) wr Hq.out)
        rw [hpl] at HPk
        obtain ⟨b, off, x, rfl, hbB, hxl, ⟨v1, v2, v3, v4, v5, v6, rfl, su, _⟩, hx⟩ := (Hs.out.same_base L4.out).at_ hd
        obtain ⟨m, hm⟩ : ∃ m, l.uses.length = m := ⟨_, rfl⟩
        obtain ⟨ua, uc, rfl⟩ : ∃ a c, v1 = .slice a m c := by obtain ⟨a, c, h, _⟩ := su.form; exact ⟨a, c, by rw [h, hm]⟩
        have hm63 : m ≤ 9223372036854775807 := by have := su.caps; unfold maxLen at this; omega
        have g2 : W4.cell? ⟨b, off + k * 8 + 2, none⟩ = some (.slice ua m uc) := hx 2 _ rfl
        have HQ2 := Lib.hid (fun W (q : Quiet W4 W) => (show W.cell? ⟨b, off + k * 8 + 2, none⟩ = some (.slice ua m uc) by obtain ⟨z, rfl⟩ := q; exact g2))
        have Su := Lib.hid su
        have Hm := Lib.hid hm
        have Hd := Lib.hid hd
        have Hi := Lib.hid hi
        have hi63 : ¬ ((i : Int) < 0) := by omega
        have d0 : decide ((i : Int) < 0) = false := decide_eq_false hi63
        clear hd hi hpl hx hxl su hm g2
        go_wp2_with (go_at_call 11; (with_reducible refine HPk.out.mono ?_); rintro e w5 ⟨rfl, q5⟩; have Q5 : Hid (Quiet W4 w5) := Lib.hid (Hq.out.trans q5); clear q5)
        obtain ⟨wo, hwo⟩ : ∃ wo, wo = wr := ⟨wr, rfl⟩
        subst hwo
        go_hide hQ2
        go_loopw [7, 8] (fun j _ wr => ∃ q : Nat, q ≤ m ∧ j = .int .i64 (q : Int) ∧ Hid (Quiet W4 wr)) (fun j _ _ => m - (intOf j).toNat)
        case atStart => exact ⟨0, Nat.zero_le _, rfl, Q5⟩
        case round =>
          obtain ⟨q, hq, rfl, hqq⟩ := hrel
          have Hqq := hqq
          have g2 := HQ2.out wr hqq.out
          clear hqq
          by_cases hqm : q < m
          · obtain ⟨s, hsk⟩ := get_some Hm.out hqm
            obtain ⟨b3, off3, x3, rfl, hb3, hxl3, ⟨rfl, _⟩, hx3⟩ := (Su.out.below (Hqq.out.below _)).at_ hsk
            have k0 := hx3 0 _ rfl
            simp only [Nat.add_zero, Nat.mul_one] at k0
            have hf0 := Hfo.out l (List.mem_iff_getElem?.2 ⟨k, Hd.out⟩) s (List.mem_iff_getElem?.2 ⟨q, hsk⟩)
            obtain ⟨t, ht⟩ : ∃ t : Nat, findN ls s = (t : Int) := ⟨(findN ls s).toNat, by omega⟩
            have HFs := Lib.hid (HF.out s wr Hqq.out)
            rw [ht] at HFs
            have hpt := placeN_lt Hg.out Hi.out (show Edge (webN ls) k t from by have := use_edge Hd.out (List.mem_iff_getElem?.2 ⟨q, hsk⟩); rw [ht, Int.toNat_natCast] at this; exact this)
            obtain ⟨pt, hpt0⟩ : ∃ z, placeN row (t : Int) = z := ⟨_, rfl⟩
            rw [hpt0] at hpt
            have HPt := Lib.hid (fun W (h : Quiet W4 W) => HP.out (t : Int) W h)
            have hpt0' : firstAt (fun x : Int => decide (x = (t : Int))) (row.map fun (n : Nat) => (n : Int)) = pt := hpt0
            rw [hpt0'] at HPt
            have d1 : decide (pt < 0) = false := by simp; omega
            have d2 : decide ((i : Int) ≤ pt) = false := by simp; omega
            clear hsk hx3 hxl3 hf0 ht hpt hpt0 hpt0'
            go_wp2_with (first
              | (go_at_call 12; (with_reducible refine HFs.out.mono ?_); rintro e w6 ⟨rfl, q6⟩; have Q6 : Hid (Quiet W4 w6) := Lib.hid (Hqq.out.trans q6); clear q6)
              | (go_at_call 11; (with_reducible refine (HPt.out _ Q6.out).mono ?_); rintro e w7 ⟨rfl, q7⟩; have Q7 : Hid (Quiet W4 w7) := Lib.hid (Q6.out.trans q7); clear q7))
            go_roundw
            case rel => exact ⟨q + 1, by omega, by go_num, Q7⟩
            case measure => simp [intOf]; omega
          · have hge : m ≤ q := by omega
            clear hqm
            subst hQ2
            go_wp2_with fail
            go_roundw
            case rel => exact ⟨k + 1, by omega, by go_num, Hqq⟩
            case measure => simp [intOf]; omega
      · have hge : n ≤ k := by omega
        have LE : Hid (Below w.heap.size w wr) := Lib.hid (L4.out.trans ((Hq.out.below _).mono L4.out.size))
        clear hlt
        go_wp2_with fail
        go_ret
        exact ⟨rfl, LE.out⟩

open Go.ChangeShapes Go.WideShapes Go.ChangeAt

theorem own : ownKnob Tryz.prog.godebug = none := by kernel_rfl
theorem laidOut : laidOutB Tryz.prog = true := by kernel_rfl

set_option maxRecDepth 100000 in
theorem lifted (os : Os) (started : os.Started) (H : Type) (enc : TypeId × Value → H) :
    ReturnsInHanded {} Tryz.checked os 3 .any (Rows.modulesAheadSpec.pre6 enc Tryz.prog Tryz.f3 Rows.modulesAheadRow.domain false) (Rows.modulesAheadSpec.post enc Tryz.prog Tryz.f3 false true false false) := by
  refine returnsInHanded_of_change_sized (C := Tryz.checked) own started (by kernel_rfl) Tryz.func3
    (ChangeSpec.witness6 (enc := enc) (C := Tryz.checked) false ⟨#[], #[.slice none 0 0], []⟩ 8 (by kernel_rfl) (by kernel_rfl) (by kernel_rfl) (by kernel_rfl)) ?_
  intro W base args ds gs before hval0 hW hcnd hwt _
  have hval : ∀ (j : Nat) t v, Tryz.f3.params[j]? = some t → args[j]? = some v → Value.okWide Tryz.prog W .any base t v := hval0
  have hW' := hW
  obtain ⟨p, q, hA0, hV, rfl, hfz, hnd⟩ := hW
  have hA : DataW.TrodAll enc Tryz.prog W 0 (fun _ => true) true Tryz.f3.params.toList args.toList ds p := hA0
  rw [Tryz.params3] at hA hval hwt
  obtain ⟨v0, vs0, d0, ds0, p0, q0, hargs, rfl, rfl, h0, r0⟩ := trodAll_cons hA
  obtain ⟨rfl, rfl, rfl⟩ := trodAll_nil r0
  obtain rfl : args = #[v0] := by cases args; simp_all
  obtain ⟨rfl, rfl⟩ := trodVars_none hV
  obtain ⟨sa0, sn0, sc0, rfl⟩ := okWide_slice Tryz.underlying22 (hval 0 22 v0 rfl rfl)
  have k0 := h0
  have lt0 : ∀ x ∈ p0, x.block < W.heap.size := by obtain ⟨m, hm⟩ := k0; exact DataW.trod_lt m _ _ _ hm
  have L0 : Light Tryz.prog 22 d0 := fun n hn => by simpa using List.all_eq_true.1 hwt n (DataW.weights_mem_each (j := 0) rfl rfl n hn)
  obtain ⟨l0, X0, F0⟩ : ∃ l : List Language, SlR W W.heap.size 8 (Language.Is W W.heap.size) (.slice sa0 sn0 sc0) l ∧ Fit l.length 168 := by
    obtain ⟨fuel, hf⟩ := h0
    exact open_SlR_light (Language.Is W W.heap.size) Tryz.underlying22 (size := 8) (bytes := 168) (by kernel_rfl) (by decide) (by kernel_rfl) hf L0 (fun n x y _ h hl => open_Language h hl)
  clear hA0 hval0
  have hwalk := lawA_walk W X0
  refine hwalk.mono fun e W' ⟨he, bel⟩ => ?_
  subst he
  exact ⟨_, rfl, _, _, _, [], _, [], hW', trodAll_mk1 (shut_bool Tryz.underlying4 _), (trodAll_cons_mk (Below.trod laidOut (by kernel_rfl) (of_decide_eq_true (by kernel_rfl)) k0 bel lt0) trodAll_mk0), rfl, bel.frame _, fun h => by cases h⟩

theorem over : Rows.modulesAheadRow.holds Tryz.pinned (OpenSpec.ofChange Rows.modulesAheadSpec) :=
  OpenClaim.holds_of_wide 3 Tryz.f3 rfl rfl rfl rfl rfl rfl rfl ⟨rfl, rfl, rfl, rfl, rfl⟩ rfl rfl rfl rfl rfl (by kernel_rfl) Tryz.func3 (by kernel_rfl)
    (of_decide_eq_true (by kernel_rfl)) (by unfold Func.isWrapper; first | (rw [if_pos (by decide +kernel)]; kernel_rfl) | (rw [if_neg (by decide +kernel)]; exact ⟨rfl, rfl⟩))
    (fun os started H enc _ => lifted os started H enc)

theorem modulesAhead_holds : Rows.ModulesAheadSaid := over
#print axioms modulesAhead_holds
end Go.Proofs.YtikplcpghohklaaGreat
