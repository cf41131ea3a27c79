/- - - -/
import Derived.Test.YtdkoafmgenbkbaaGreatDoorKM6
import Derived.Test.YtdkoafmgenbkbaaGreatDoorKM12
set_option maxRecDepth 100000
set_option maxHeartbeats 32000000
set_option linter.unusedSimpArgs false
set_option linter.unusedVariables false
namespace Go.Proofs.YtdkoafmgenbkbaaGreatDoor
open Go.RowKit
theorem ins_ok {op a i : Int} {t : ByteArray} (h1 : -9223372036854775808 ≤ op) (h2 : op ≤ 9223372036854775807) (h3 : -9223372036854775808 ≤ a) (h4 : a ≤ 9223372036854775807) (h5 : -9223372036854775808 ≤ i) (h6 : i ≤ 9223372036854775807) (ht : t.size ≤ maxLen) : Ins.ok ⟨op, a, i, t⟩ :=
  ⟨wf47 h1 h2, wf47 h3 h4, wf47 h5 h6, ht⟩
theorem Blk.drwC {w : World} {g : Nat} {t : TypeId} {cs : Array Value} (h : Blk w g t cs) : Blk w.drew g t cs := h
theorem nil_size : (⟨#[]⟩ : ByteArray).size ≤ maxLen := by decide
theorem put_any {W : World} {g : Nat} {lv ov vv : Value} {out : List Ins} {vs : List (List Nat)} (op : Int) (h : MkSt W g lv ov vv out vs) (ho1 : 0 ≤ op) (ho2 : op ≤ 100) (hl : out.length ≤ 100000) :
    Calls Tryz.prog 44 #[.pointer (some ⟨g, 0, none⟩), .int .i64 op] W fun e w' => e = .returned (.tuple #[]) ∧ ∃ ov', MkSt w' g lv ov' vv (out ++ [insI op 0]) vs ∧ KT W w' g := by
  obtain ⟨oa, oc, rfl⟩ := h.own.form
  obtain ⟨n, hn⟩ : ∃ n, out.length = n := ⟨_, rfl⟩
  rw [hn] at h hl
  have c1 : W.cell? ⟨g, 1, none⟩ = some (.slice oa n oc) := h.blk.cell rfl
  have f1 := h.blk.frozen 1
  have hg := h.lt
  obtain ⟨jI, hi, hz, hsz, hby⟩ := info_parts info_Ins
  have I := zH (And.intro hi (And.intro hz (And.intro hsz hby)))
  have HM := zH h
  have HN := zH hn
  have HL := zH hl
  have HO := zH (And.intro ho1 ho2)
  clear hi hz hsz hby h hn hl ho1 ho2
  go_enter Tryz.func44, Tryz.ntmps44
  go_wp2_with (first
    | (at_builtin
       go_must (refine wpList_append_list rfl (.tmp 8) (.tmp 11) _ (by rfl) (g + 1) (W.heap.size + 1) 42 jI _ 4 40 Tryz.underlying22 I.out.1 I.out.2.1 I.out.2.2.1 I.out.2.2.2 rfl (by omega) (R := Ins.Is) (l := out) (m := [⟨op, 0, 0, ⟨#[]⟩⟩]) (.slice oa n oc) (by rfl) (by exact (HM.out.own.alloc (.cells #[.int .i64 op, .int .i64 0, .int .i64 0, .string ⟨#[]⟩] 42))) (some ⟨W.heap.size, 0, none⟩) 1 1 (by rfl) (SlR.new1 (w := W) (e := 42) (g := W.heap.size) rfl (x := [.int .i64 op, .int .i64 0, .int .i64 0, .string ⟨#[]⟩]) rfl (R := Ins.Is) (y := ⟨op, 0, 0, ⟨#[]⟩⟩) ⟨rfl, ins_ok (by have := HO.out; omega) (by have := HO.out; omega) (by omega) (by omega) (by omega) (by omega) nil_size⟩) (n + 1) (by rw [HN.out]) Ins.Is.one (by have := HL.out; have := HN.out; unfold maxLen; omega) (by have := HL.out; have := HN.out; omega) (by have := HM.out.lt; simp; omega) ?_)
       intro a5 c5 w5 hown hgr
       go_must (have K := MkSt.push (HM.out.alloc (.cells #[.int .i64 op, .int .i64 0, .int .i64 0, .string ⟨#[]⟩] 42)) hown hgr)
       have b5 : Blk w5 g 79 #[lv, .slice oa n oc, vv] := (HM.out.blk.alloc _).grown hgr (fun e => by have := (HM.out.own.block g e.symm).1; omega)
       have c5 : w5.cell? ⟨g, 1, none⟩ = some (.slice oa n oc) := b5.cell rfl
       have f5 := b5.frozen 1
       have HK := zH K
       clear K b5
       clear hown hgr)
    | fail)
  go_end0
  exact ⟨rfl, _, HK.out.1, (KT.of_below (zB.alloc zL _) (Nat.le_of_lt hg)).trans HK.out.2⟩
def holeV (q1 q2 : Nat) : Value := .func (.func 61) #[] #[.pointer (some ⟨q1, 0, none⟩), .pointer (some ⟨q2, 0, none⟩)]
theorem hole_any {W : World} {g : Nat} {lv ov vv : Value} {out : List Ins} {vs : List (List Nat)} (op : Int) (h : MkSt W g lv ov vv out vs) (ho1 : 0 ≤ op) (ho2 : op ≤ 100) (hl : out.length ≤ 100000) :
    Calls Tryz.prog 43 #[.pointer (some ⟨g, 0, none⟩), .int .i64 op] W fun e w' => ∃ q1 q2, e = .returned (holeV q1 q2) ∧ (∃ ov', MkSt w' g lv ov' vv (out ++ [insI op 0]) vs ∧ KT W w' g) ∧ Blk w' q1 76 #[.pointer (some ⟨g, 0, none⟩)] ∧ Blk w' q2 3 #[.int .i64 (out.length : Int)] := by
  have hmf : ∀ (fn : Fn) (first cap : Array Value) (w : World), (Instr.makeFunc fn first cap).run Tryz.prog w = .ok (.func fn first cap) w := fun _ _ _ _ => rfl
  obtain ⟨oa, oc, rfl⟩ := h.own.form
  have c1 : W.cell? ⟨g, 1, none⟩ = some (.slice oa out.length oc) := h.blk.cell rfl
  have hg := h.lt
  have hg2 : g < W.heap.size + 1 := by omega
  obtain ⟨n, hn⟩ : ∃ n, out.length = n := ⟨_, rfl⟩
  have PT := zH (put_any op ((h.alloc (.cells #[.pointer (some ⟨g, 0, none⟩)] 76)).alloc (.cells #[.int .i64 (n : Int)] 3)) ho1 ho2 hl)
  rw [hn] at c1
  have HG := zH (Nat.le_of_lt hg)
  have HN := zH hn
  clear h hn hl ho1 ho2
  go_enter Tryz.func43, Tryz.ntmps43
  go_wp2_with (first
    | (go_at_call 44; go_must (refine PT.out.mono ?_); rintro e w5 ⟨rfl, ov', hk1, hk2⟩; go_must (have K5 := zH (And.intro hk1 hk2)); clear hk1 hk2)
    | fail)
  go_ret
  refine ⟨W.heap.size, W.heap.size + 1, rfl, ⟨ov', K5.out.1, (KT.of_below ((zB.alloc zL _).alloc (by simp) _) HG.out).trans K5.out.2⟩, ?_, ?_⟩
  · exact K5.out.2.typ _ _ _ (by decide) (by decide) (by decide) ((Blk.new W _ _).alloc _)
  · rw [HN.out]; exact K5.out.2.typ _ _ _ (by decide) (by decide) (by decide) (Blk.new_ (w := W.alloc (.cells #[.pointer (some ⟨g, 0, none⟩)] 76)) (g := W.heap.size + 1) (by simp) _ _)
theorem Own1.arg {W : World} {base : Nat} {v : Value} {out : List Ins} (h : Own1 W base 42 4 Ins.Is v out) {i : Nat} {x : Ins} (hx : out[i]? = some x) : ∃ b c, v = .slice (some ⟨b, 0, none⟩) out.length c ∧ W.cell? ⟨b, i * 4, none⟩ = some (.int .i64 x.op) ∧ W.cell? ⟨b, i * 4 + 1, none⟩ = some (.int .i64 x.arg) ∧ W.frozen? ⟨b, i * 4 + 1, none⟩ = false ∧ b < W.heap.size ∧ x.ok := by
  obtain ⟨a, c, rfl⟩ := h.form
  obtain ⟨b, off, y, rfl, hb, hl, ⟨rfl, hok⟩, hc⟩ := (h.read (by decide)).at_ hx
  have hoff : off = 0 := by
    obtain ⟨xs, ⟨h1, h2⟩, _⟩ := h
    rcases h2 with ⟨h2, _⟩ | ⟨g', cap, cur, r1, _⟩
    · cases h2
    · injection r1 with e1; injection e1 with e1; injection e1 with _ e1
  subst hoff
  obtain ⟨cs, hB⟩ := h.type (b := b) rfl
  have c0 := hc 0 _ rfl
  have c1 := hc 1 _ rfl
  rw [Nat.zero_add] at c0 c1
  exact ⟨b, c, rfl, by simpa using c0, c1, hB.frozen _, hB.lt, hok⟩
theorem fill_any {W : World} {g : Nat} {lv ov vv : Value} {out : List Ins} {vs : List (List Nat)} {q1 q2 i : Nat} (h : MkSt W g lv ov vv out vs) (h1 : Blk W q1 76 #[.pointer (some ⟨g, 0, none⟩)]) (h2 : Blk W q2 3 #[.int .i64 (i : Int)]) (hi : i < out.length) (hl : out.length ≤ 1000000) :
    Calls Tryz.prog 61 #[.pointer (some ⟨q1, 0, none⟩), .pointer (some ⟨q2, 0, none⟩)] W fun e w' => e = .returned (.tuple #[]) ∧ MkSt w' g lv ov vv (endI out i) vs ∧ KT W w' g := by
  obtain ⟨x, hx⟩ := get_some rfl hi
  obtain ⟨b, c, rfl, x0, x1, xf, hbl, hok⟩ := h.own.arg hx
  have c1 : W.cell? ⟨g, 1, none⟩ = some (.slice (some ⟨b, 0, none⟩) out.length c) := h.blk.cell rfl
  have k1 : W.cell? ⟨q1, 0, none⟩ = some (.pointer (some ⟨g, 0, none⟩)) := h1.cell rfl
  have k2 : W.cell? ⟨q2, 0, none⟩ = some (.int .i64 (i : Int)) := h2.cell rfl
  have hI := h.arg hi (v := (out.length : Int)) (wf47 (by omega) (by omega))
  obtain ⟨n, hn⟩ : ∃ n, out.length = n := ⟨_, rfl⟩
  rw [hn] at c1 hi hI
  have hi1 : (i : Int) < (n : Int) := by omega
  have hi0 : (0 : Int) ≤ (i : Int) := Int.natCast_nonneg _
  have HN := zH hn
  have HI := zH hI
  clear h h1 h2 hx hok hn hI
  go_enter Tryz.func61, Tryz.ntmps61
  go_wp2_with fail
  go_region
  all_goals
    go_wp2_with fail
    go_end0
    unfold endI
    rw [HN.out]
    first
      | exact ⟨rfl, HI.out.1.drew, HI.out.2.trans ⟨zB.drew, fun _ _ _ _ _ _ h => h⟩⟩
      | exact ⟨rfl, HI.out.1, HI.out.2⟩
theorem same_any (k : Nat) (hk : (3 ≤ k ∧ k ≤ 6) ∨ (8 ≤ k ∧ k ≤ 26) ∨ k = 29) (w : World) : Calls Tryz.prog 45 #[.int .i64 (k : Int)] w fun e w' => e = .returned (.int .i64 (sameN k)) ∧ Quiet w w' := by
  rcases (by omega : k = 3 ∨ k = 4 ∨ k = 5 ∨ k = 6 ∨ k = 8 ∨ k = 9 ∨ k = 10 ∨ k = 11 ∨ k = 12 ∨ k = 13 ∨ k = 14 ∨ k = 15 ∨ k = 16 ∨ k = 17 ∨ k = 18 ∨ k = 19 ∨ k = 20 ∨ k = 21 ∨ k = 22 ∨ k = 23 ∨ k = 24 ∨ k = 25 ∨ k = 26 ∨ k = 29) with rfl | rfl | rfl | rfl | rfl | rfl | rfl | rfl | rfl | rfl | rfl | rfl | rfl | rfl | rfl | rfl | rfl | rfl | rfl | rfl | rfl | rfl | rfl | rfl
  all_goals
    clear hk
    go_enter Tryz.func45, Tryz.ntmps45
    go_wp2_with fail
    go_ret
    exact ⟨rfl, Quiet.refl _⟩
theorem find_rev {vs : List (List Nat)} {s : List Nat} {k : Nat} (h1 : k < vs.length) (h2 : vs[k]? = some s) (h3 : ∀ j, k < j → j < vs.length → vs[j]? ≠ some s) : vs.reverse.findIdx? (fun x => decide (x = s)) = some (vs.length - 1 - k) := by
  rw [List.findIdx?_eq_some_iff_getElem]
  have hl : vs.length - 1 - k < vs.reverse.length := by rw [List.length_reverse]; omega
  refine ⟨hl, ?_, fun j hj => ?_⟩
  · rw [List.getElem_reverse]
    have : vs[vs.length - 1 - (vs.length - 1 - k)]? = some s := by rw [show vs.length - 1 - (vs.length - 1 - k) = k by omega]; exact h2
    simpa using (List.getElem?_eq_some_iff.1 this).2
  · rw [List.getElem_reverse]
    have := h3 (vs.length - 1 - j) (by omega) (by omega)
    rw [List.getElem?_eq_getElem (by omega)] at this
    simpa using this
theorem find_none {vs : List (List Nat)} {s : List Nat} (h3 : ∀ j, j < vs.length → vs[j]? ≠ some s) : vs.reverse.findIdx? (fun x => decide (x = s)) = none := by
  rw [List.findIdx?_eq_none_iff]
  intro x hx
  obtain ⟨j, hj⟩ := List.mem_iff_getElem?.1 (List.mem_reverse.1 hx)
  have hjl := (List.getElem?_eq_some_iff.1 hj).1
  have := h3 j hjl
  simp only [decide_eq_false_iff_not]
  rintro rfl
  exact this hj
theorem txt_eq {a b : List Nat} (ha : Bytes a) (hb : Bytes b) : ((txt a).toList == (txt b).toList) = decide (a = b) := by
  rw [Bool.eq_iff_iff]
  simp only [beq_iff_eq, decide_eq_true_eq, toList_inj]
  exact ⟨fun h => by rw [← bs_txt ha, ← bs_txt hb, h], fun h => by rw [h]⟩
theorem variable_any {W : World} {g : Nat} {lv ov vv : Value} {out : List Ins} {vs : List (List Nat)} (s : List Nat) (h : MkSt W g lv ov vv out vs) (hb : Bytes s) (hvb : ∀ v ∈ vs, Bytes v) (hl : out.length ≤ 100000) :
    Calls Tryz.prog 42 #[.pointer (some ⟨g, 0, none⟩), .string (txt s)] W fun e w' => e = .returned (.tuple #[]) ∧ ∃ ov', MkSt w' g lv ov' vv (out ++ [varI vs s]) vs ∧ KT W w' g := by
  obtain ⟨oa, oc, rfl⟩ := h.own.form
  obtain ⟨va, vc, rfl⟩ := h.vown.form
  obtain ⟨n, hn⟩ : ∃ n, out.length = n := ⟨_, rfl⟩
  obtain ⟨nv, hnv⟩ : ∃ n, vs.length = n := ⟨_, rfl⟩
  have hcap := (h.vown.read (by decide)).caps
  rw [hn, hnv] at h
  rw [hnv] at hcap
  rw [hn] at hl
  have c1 : W.cell? ⟨g, 1, none⟩ = some (.slice oa n oc) := h.blk.cell rfl
  have c2 : W.cell? ⟨g, 2, none⟩ = some (.slice va nv vc) := h.blk.cell rfl
  have f1 := h.blk.frozen 1
  have hg := h.lt
  obtain ⟨jI, hi, hz, hsz, hby⟩ := info_parts info_Ins
  have I := zH (And.intro hi (And.intro hz (And.intro hsz hby)))
  have hnv2 : (nv : Int) ≤ 9223372036854775807 := by unfold maxLen at hcap; omega
  have HM := zH h
  have HN := zH hn
  have HNV := zH hnv
  have HL := zH hl
  have HB := zH hb
  have HVB := zH hvb
  clear hi hz hsz hby h hn hl hb hvb hnv hcap
  go_enter Tryz.func42, Tryz.ntmps42
  go_wp2_with fail
  go_loopw [4] (fun j wr => ∃ k : Nat, k ≤ nv ∧ j = .int .i64 ((k : Int) - 1) ∧ Hid (∀ j, k ≤ j → j < vs.length → vs[j]? ≠ some s) ∧ W = wr) (fun j _ => (intOf j + 1).toNat)
  case atStart => exact ⟨nv, Nat.le_refl _, rfl, zH (fun j h1 h2 => by rw [HNV.out] at h2; omega), rfl⟩
  case round =>
    obtain ⟨k, hk, rfl, hno, rfl⟩ := hrel
    by_cases hk0 : 0 < k
    · obtain ⟨j, rfl⟩ : ∃ j, k = j + 1 := ⟨k - 1, by omega⟩
      have hj : j < nv := by omega
      obtain ⟨v, hv⟩ := get_some HNV.out hj
      obtain ⟨b, off, x, rfl, hbB, hxl, rfl, hx⟩ := (HM.out.vown.read (by decide)).at_ hv
      have x0 := hx 0 _ rfl
      simp only [Nat.add_zero, Nat.mul_one] at x0
      have hvby := HVB.out v (List.mem_iff_getElem?.2 ⟨j, hv⟩)
      have hdec := txt_eq hvby HB.out
      have e0 : ((j + 1 : Nat) : Int) - 1 = (j : Int) := by omega
      rw [e0]
      have j0 : (0 : Int) ≤ (j : Int) := Int.natCast_nonneg _
      have j1 : (j : Int) < (nv : Int) := by omega
      by_cases hvs : v = s
      · have hd1 : ((txt v).toList == (txt s).toList) = true := by rw [hdec]; exact decide_eq_true hvs
        have hva : varI vs s = ⟨8, (nv : Int) - 1 - (j : Int), 0, ⟨#[]⟩⟩ := by
          unfold varI
          rw [find_rev (k := j) (by rw [HNV.out]; exact hj) (by rw [hv, hvs]) (fun j' h1 h2 => hno.out j' (by omega) h2), HNV.out]
          simp only [insI]
          congr 1
          omega
        have HVA := zH hva
        have hwa : (IntKind.i64.wrap (IntKind.i64.wrap ((nv : Int) - 1) - (j : Int))) = (nv : Int) - 1 - (j : Int) := by rw [IntKind.wrap_i64, IntKind.wrap_i64]; omega
        have HWA := zH hwa
        have HJ := zH (show -9223372036854775808 ≤ (IntKind.i64.wrap (IntKind.i64.wrap ((nv : Int) - 1) - (j : Int))) ∧ (IntKind.i64.wrap (IntKind.i64.wrap ((nv : Int) - 1) - (j : Int))) ≤ 9223372036854775807 by rw [hwa]; omega)
        clear hwa
        clear hdec hvs hva hv hx hvby hno
        go_wp2_with fail
        go_region_law (first
          | (skip
             go_must (refine step_append_list rfl (.tmp 28) (.tmp 38) _ (by rfl) (g + 1) (W.heap.size + 1) 42 jI _ 4 40 Tryz.underlying22 I.out.1 I.out.2.1 I.out.2.2.1 I.out.2.2.2 rfl (by omega) (R := Ins.Is) (l := out) (m := [⟨8, (IntKind.i64.wrap (IntKind.i64.wrap ((nv : Int) - 1) - (j : Int))), 0, ⟨#[]⟩⟩]) (.slice oa n oc) (by rfl) (by exact ((HM.out.own.alloc (.cells #[.int .i64 8, .int .i64 (IntKind.i64.wrap (IntKind.i64.wrap ((nv : Int) - 1) - (j : Int))), .int .i64 0, .string ⟨#[]⟩] 42)).drew)) (some ⟨W.heap.size, 0, none⟩) 1 1 (by rfl) (by exact SlR.new1 (w := W) (e := 42) (g := W.heap.size) rfl (x := [.int .i64 8, .int .i64 (IntKind.i64.wrap (IntKind.i64.wrap ((nv : Int) - 1) - (j : Int))), .int .i64 0, .string ⟨#[]⟩]) rfl (R := Ins.Is) (y := ⟨8, (IntKind.i64.wrap (IntKind.i64.wrap ((nv : Int) - 1) - (j : Int))), 0, ⟨#[]⟩⟩) ⟨rfl, ins_ok (by omega) (by omega) HJ.out.1 HJ.out.2 (by omega) (by omega) nil_size⟩) (n + 1) (by rw [HN.out]) Ins.Is.one (by have := HL.out; have := HN.out; unfold maxLen; omega) (by have := HL.out; have := HN.out; omega) (by have := HM.out.lt; simp; omega) ?_)
             intro a5 c5 w5 hown hgr
             go_must (have K := MkSt.push ((HM.out.alloc (.cells #[.int .i64 8, .int .i64 (IntKind.i64.wrap (IntKind.i64.wrap ((nv : Int) - 1) - (j : Int))), .int .i64 0, .string ⟨#[]⟩] 42)).drew) hown hgr)
             go_must (have b5 := (Blk.drwC (HM.out.blk.alloc (.cells #[.int .i64 8, .int .i64 (IntKind.i64.wrap (IntKind.i64.wrap ((nv : Int) - 1) - (j : Int))), .int .i64 0, .string ⟨#[]⟩] 42))).grown hgr (fun e => by have := (HM.out.own.block g e.symm).1; omega))
             have c5 : w5.cell? ⟨g, 1, none⟩ = some (.slice oa n oc) := b5.cell rfl
             have f5 := b5.frozen 1
             have HK := zH K
             clear K b5
             clear hown hgr)
          | fail)
        all_goals
          go_wp2_with fail
          refine bodyPost_ret (v := .tuple #[]) (by simp [results, Tryz.results42, go_sem]) rfl ?_
          have hk := HK.out
          rw [HWA.out] at hk
          rw [HVA.out, HNV.out]
          exact ⟨rfl, _, hk.1, (KT.of_below (zB.alloc zL _).drew (Nat.le_of_lt hg)).trans hk.2⟩
      · have hd1 : ((txt v).toList == (txt s).toList) = false := by rw [hdec]; exact decide_eq_false hvs
        have HNO2 : Hid (∀ j', j ≤ j' → j' < vs.length → vs[j']? ≠ some s) := zH (fun j' h1 h2 => by
          by_cases e : j' = j
          · subst e; rw [hv]; intro e2; injection e2 with e2; exact hvs e2
          · exact hno.out j' (by omega) h2)
        clear hdec hvs hv hx hvby hno
        go_wp2_with fail
        go_roundw
        case rel => exact ⟨j, by omega, by go_num, HNO2, by trivial⟩
        case measure => simp [intOf]
    · obtain rfl : k = 0 := by omega
      have hva : varI vs s = insI 9 0 := by unfold varI; rw [find_none (fun j h => hno.out j (Nat.zero_le _) h)]
      have HVA := zH hva
      have PT := zH (put_any 9 HM.out (by omega) (by omega) (by rw [HN.out]; exact HL.out))
      clear hva hno
      go_wp2_with (first
        | (go_at_call 44; go_must (refine PT.out.mono ?_); rintro e w5 ⟨rfl, ov', hk1, hk2⟩; go_must (have K5 := zH (And.intro hk1 hk2)); clear hk1 hk2)
        | fail)
      go_end0
      rw [HVA.out, HNV.out]
      exact ⟨rfl, ov', K5.out.1, K5.out.2⟩
end Go.Proofs.YtdkoafmgenbkbaaGreatDoor
namespace Go.Proofs.YtdkoafmgenbkbaaGreatDoor
open Go.RowKit
theorem stands_node {l : List ND} {k : Nat} {s : List Nat} {n : Int} {ks : List Tr} {p : Nat} (h : Stands l (.node k s n ks) p) : l[p]? = some ⟨(k : Int), s, n, (placesL ks (p + 1)).map fun n : Nat => (n : Int)⟩ ∧ StandsL l ks (p + 1) := by
  unfold Stands ndsT at h
  simp only [Tr.flat, Tr.size, List.map_cons] at h
  have h0 : l.drop p ≠ [] := by
    intro e
    rw [e] at h
    simp at h
  obtain ⟨d, r, hd⟩ := List.exists_cons_of_ne_nil h0
  rw [hd, Nat.add_comm, List.take_succ_cons] at h
  injection h with h1 h2
  have hr : r = l.drop (p + 1) := by
    have := congrArg List.tail hd
    rw [List.tail_drop] at this
    exact this.symm
  refine ⟨?_, ?_⟩
  · have := congrArg List.head? hd
    rw [List.head?_drop] at this
    rw [this, List.head?_cons, h1]
    rfl
  · unfold StandsL ndsL
    rw [← hr, h2]
theorem standsL_cons {l : List ND} {t : Tr} {ts : List Tr} {p : Nat} (h : StandsL l (t :: ts) p) : Stands l t p ∧ StandsL l ts (p + t.size) := by
  unfold StandsL ndsL at h
  simp only [flatL, sizeL, List.map_append] at h
  have hl : ((t.flat p).map EN.nd).length = t.size := by rw [List.length_map, trFlat_len]
  constructor
  · unfold Stands ndsT
    have := congrArg (List.take t.size) h
    rw [List.take_take, Nat.min_eq_left (by omega), List.take_left' hl] at this
    exact this
  · unfold StandsL ndsL
    have := congrArg (List.drop t.size) h
    rw [List.drop_take, List.drop_drop, Nat.add_sub_cancel_left, List.drop_left' hl] at this
    exact this
def cK (f : Nat) (vs : List (List Nat)) : List Tr → List Ins → List Ins
  | [], out => out
  | t :: ts, out => cK f vs ts (cP f t vs out)
def CntOk (out : List Ins) (f : Nat) : Prop := ∀ x, out.getLast? = some x → x.op = 1 → 0 ≤ x.arg ∧ x.arg + f ≤ 1000
theorem cP_last {f : Nat} {t : Tr} {vs : List (List Nat)} {out : List Ins} (hg : t.Good) (hd : t.deep ≤ f) (ho : StepsOk out) : ∃ b x, cP f t vs out = b ++ [x] ∧ x.op ≠ 1 := by
  rw [comp_law f t vs out hg hd ho]
  obtain ⟨b, x, h1, h2⟩ := cR_last f t vs (cntI out + 1) hg hd
  rw [h1, then_ins]
  exact ⟨_, _, rfl, by rw [onI_op]; exact h2⟩
theorem last_ok {out : List Ins} {f : Nat} (h : ∃ b x, out = b ++ [x] ∧ x.op ≠ 1) : StepsOk out ∧ CntOk out f := by
  obtain ⟨b, x, rfl, hx⟩ := h
  refine ⟨(pre_other hx).2.2, fun y hy hy1 => ?_⟩
  rw [List.getLast?_concat] at hy
  injection hy with hy
  subst hy
  exact absurd hy1 hx
theorem step_len (out : List Ins) : (stepI out).length ≤ out.length + 1 := by
  unfold stepI
  split
  · split
    · simp
    · simp
  · simp
theorem endI_len (out : List Ins) (i : Nat) : (endI out i).length = out.length := by unfold endI; rw [List.length_modify]
theorem cP_len : ∀ (f : Nat) (t : Tr) (vs : List (List Nat)) (out : List Ins), (cP f t vs out).length ≤ out.length + 4 * t.size
  | 0, t, vs, out => by simp only [cP]; omega
  | f + 1, .node k s n ks, vs, out => by
    have hs := step_len out
    match ks with
    | [] => simp only [cP, Tr.size, sizeL, List.length_append, List.length_cons, List.length_nil]; omega
    | [a] =>
      have h1 := cP_len f a vs (stepI out)
      simp only [cP, Tr.size, sizeL, List.length_append, List.length_cons, List.length_nil]; omega
    | [a, b] =>
      have h1 := cP_len f a vs (stepI out)
      simp only [cP]
      split
      · have h2 := cP_len f b vs (cP f a vs (stepI out) ++ [insI (k + 3) 0])
        simp only [endI_len, Tr.size, sizeL, List.length_append, List.length_cons, List.length_nil] at h2 ⊢; omega
      · split
        · have h2 := cP_len f b (vs ++ [s]) (cP f a vs (stepI out) ++ [insI (k + 4) 0] ++ [insI 39 0])
          simp only [endI_len, Tr.size, sizeL, List.length_append, List.length_cons, List.length_nil] at h2 ⊢; omega
        · have h2 := cP_len f b vs (cP f a vs (stepI out))
          simp only [Tr.size, sizeL, List.length_append, List.length_cons, List.length_nil] at h2 ⊢; omega
    | [a, b, c] =>
      have h1 := cP_len f a vs (stepI out)
      simp only [cP]
      have h2 := cP_len f b vs (cP f a vs (stepI out) ++ [insI 33 0])
      have h3 := cP_len f c vs (endI (cP f b vs (cP f a vs (stepI out) ++ [insI 33 0]) ++ [insI 34 0]) (cP f a vs (stepI out)).length)
      simp only [endI_len, Tr.size, sizeL, List.length_append, List.length_cons, List.length_nil] at h2 h3 ⊢; omega
    | _ :: _ :: _ :: _ :: _ => simp only [cP]; omega
theorem step_ge (out : List Ins) : out.length ≤ (stepI out).length := by
  unfold stepI
  split
  · next x h =>
    have : out ≠ [] := by rintro rfl; cases h
    have := List.length_pos_iff.2 this
    split
    · simp; omega
    · simp
  · simp
theorem cP_ge : ∀ (f : Nat) (t : Tr) (vs : List (List Nat)) (out : List Ins), out.length ≤ (cP f t vs out).length
  | 0, t, vs, out => Nat.le_refl _
  | f + 1, .node k s n ks, vs, out => by
    have hs := step_ge out
    match ks with
    | [] => simp only [cP, List.length_append]; omega
    | [a] =>
      have h1 := cP_ge f a vs (stepI out)
      simp only [cP, List.length_append]; omega
    | [a, b] =>
      have h1 := cP_ge f a vs (stepI out)
      simp only [cP]
      split
      · have h2 := cP_ge f b vs (cP f a vs (stepI out) ++ [insI (k + 3) 0])
        simp only [endI_len, List.length_append, List.length_cons, List.length_nil] at h2 ⊢; omega
      · split
        · have h2 := cP_ge f b (vs ++ [s]) (cP f a vs (stepI out) ++ [insI (k + 4) 0] ++ [insI 39 0])
          simp only [endI_len, List.length_append, List.length_cons, List.length_nil] at h2 ⊢; omega
        · have h2 := cP_ge f b vs (cP f a vs (stepI out))
          simp only [List.length_append, List.length_cons, List.length_nil] at h2 ⊢; omega
    | [a, b, c] =>
      have h1 := cP_ge f a vs (stepI out)
      simp only [cP]
      have h2 := cP_ge f b vs (cP f a vs (stepI out) ++ [insI 33 0])
      have h3 := cP_ge f c vs (endI (cP f b vs (cP f a vs (stepI out) ++ [insI 33 0]) ++ [insI 34 0]) (cP f a vs (stepI out)).length)
      simp only [endI_len, List.length_append, List.length_cons, List.length_nil] at h2 h3 ⊢; omega
    | _ :: _ :: _ :: _ :: _ => simp only [cP]; omega
theorem cK_snoc {f : Nat} {vs : List (List Nat)} : ∀ (ts : List Tr) (t : Tr) (out : List Ins), cK f vs (ts ++ [t]) out = cP f t vs (cK f vs ts out)
  | [], t, out => rfl
  | u :: ts, t, out => by
    show cK f vs (ts ++ [t]) _ = _
    rw [cK_snoc ts t]
    rfl
theorem sizeL_take {ts : List Tr} {j : Nat} {t : Tr} (h : ts[j]? = some t) : sizeL (ts.take j) + t.size ≤ sizeL ts := by
  induction ts generalizing j with
  | nil => cases h
  | cons u ts ih =>
    cases j with
    | zero => simp at h; subst h; simp [sizeL]
    | succ j => simp only [List.getElem?_cons_succ] at h; have := ih h; simp only [List.take_succ_cons, sizeL]; omega
theorem cK_len {f : Nat} {vs : List (List Nat)} : ∀ (ts : List Tr) (out : List Ins), (cK f vs ts out).length ≤ out.length + 4 * sizeL ts
  | [], out => by simp [cK, sizeL]
  | t :: ts, out => by
    have h1 := cK_len (f := f) (vs := vs) ts (cP f t vs out)
    have h2 := cP_len f t vs out
    simp only [cK, sizeL]
    omega
theorem stands_at {l : List ND} : ∀ {ts : List Tr} {p j : Nat} {t : Tr}, StandsL l ts p → ts[j]? = some t → ∃ q, (placesL ts p)[j]? = some q ∧ Stands l t q
  | [], p, j, t, h, e => by cases e
  | u :: ts, p, j, t, h, e => by
    obtain ⟨h1, h2⟩ := standsL_cons h
    cases j with
    | zero => simp at e; subst e; exact ⟨p, rfl, h1⟩
    | succ j => exact stands_at (ts := ts) (j := j) h2 (by simpa using e)
theorem good_at : ∀ {ts : List Tr} {j : Nat} {t : Tr}, GoodL ts → ts[j]? = some t → t.Good
  | [], j, t, h, e => by cases e
  | u :: ts, j, t, h, e => by
    cases j with
    | zero => simp at e; subst e; exact h.1
    | succ j => exact good_at (ts := ts) (j := j) h.2 (by simpa using e)
theorem deep_at : ∀ {ts : List Tr} {j : Nat} {t : Tr}, ts[j]? = some t → t.deep ≤ deepL ts
  | [], j, t, e => by cases e
  | u :: ts, j, t, e => by
    simp only [deepL]
    cases j with
    | zero => simp at e; subst e; omega
    | succ j => have := deep_at (ts := ts) (j := j) (by simpa using e); omega
theorem plain_len {s : List Nat} (h : plain8N s = true) : s.length ≤ 32 := by
  unfold plain8N at h
  simp only [Bool.and_eq_true] at h
  have h1 := h.1
  cases s with
  | nil => simp
  | cons c t =>
    unfold rightN at h1
    simp only [Bool.and_eq_true, decide_eq_true_eq] at h1
    exact h1.1.1
theorem shape_len {k : Nat} {s : List Nat} {n : Int} {ks : List Tr} (h : Shape k s n ks) : s.length ≤ 4096 := by
  cases h with
  | text h => exact h
  | name h => have := plain_len h; omega
  | post _ _ _ h => have := plain_len h; omega
  | loop _ _ h => have := plain_len h; omega
  | _ => simp
theorem cP_def {f : Nat} {k : Nat} {s : List Nat} {n : Int} {ks : List Tr} {vs : List (List Nat)} {out : List Ins} (h : (ks = [] ∧ 3 ≤ k ∧ k ≤ 6) ∨ (∃ a, ks = [a]) ∨ (∃ a b, ks = [a, b] ∧ 20 ≤ k ∧ k ≤ 26)) : cP (f + 1) (.node k s n ks) vs out = cK f vs ks (stepI out) ++ [⟨sameN k, 0, 0, txt s⟩] := by
  rcases h with ⟨rfl, h1, h2⟩ | ⟨a, rfl⟩ | ⟨a, b, rfl, h1, h2⟩
  · simp only [cP, cK, leafI]
    rw [if_neg (by omega), if_neg (by omega), if_neg (by omega)]
  · rfl
  · simp only [cP, cK]
    rw [if_neg (by omega), if_neg (by omega)]
structure NPre (l : List ND) (lv : Value) (W0 : World) (g f : Nat) (t : Tr) (p : Nat) (vs : List (List Nat)) (W : World) (ov vv : Value) (out : List Ins) : Prop where
  hs : SlR W0 W0.heap.size 4 (ND.Is W0 W0.heap.size) lv l
  hg : W0.heap.size ≤ g
  good : t.Good
  deep : t.deep ≤ f
  st : Stands l t p
  hw : Below W0.heap.size W0 W
  ms : MkSt W g lv ov vv out vs
  vb : ∀ v ∈ vs, Bytes v
  ok : StepsOk out
  cnt : CntOk out f
  len : out.length + 4 * t.size ≤ 10000
  vlen : vs.length + f ≤ 1000
theorem NPre.kid {l : List ND} {lv : Value} {W0 : World} {g f : Nat} {k : Nat} {s : List Nat} {n : Int} {ks : List Tr} {p : Nat} {vs : List (List Nat)} {W : World} {ov vv : Value} {out : List Ins} (H : NPre l lv W0 g (f + 1) (.node k s n ks) p vs W ov vv out) {j : Nat} {a : Tr} {q : Nat} (ha : ks[j]? = some a) (hq : Stands l a q) {w' : World} (hk : KT W w' g) {ov' vv' : Value} {out' : List Ins} {vs' : List (List Nat)} (ms : MkSt w' g lv ov' vv' out' vs') (vb : ∀ v ∈ vs', Bytes v) (hok : StepsOk out' ∧ CntOk out' f) (hlen : out'.length + 4 * a.size ≤ 10000) (hv : vs'.length ≤ vs.length + 1) : NPre l lv W0 g f a q vs' w' ov' vv' out' :=
  ⟨H.hs, H.hg, good_at H.good.2 ha, by have := deep_at ha; have h2 := deep_one H.deep; omega, hq, H.hw.trans (hk.bel.mono H.hg), ms, vb, hok.1, hok.2, hlen, by have := H.vlen; omega⟩
theorem kid_cell {W0 : World} {l : List ND} {p B : Nat} {ks : List Tr} {kb ko : Nat} {kn kc : Nat} (hkv : SlR W0 B 1 IsI (.slice (some ⟨kb, ko, none⟩) kn kc) ((placesL ks p).map fun n : Nat => (n : Int))) (hst : StandsL l ks p) {j : Nat} {t : Tr} (ht : ks[j]? = some t) : ∃ q : Nat, Stands l t q ∧ ∀ w, Below B W0 w → w.cell? ⟨kb, ko + j, none⟩ = some (.int .i64 (q : Int)) := by
  obtain ⟨q, hq, hs⟩ := stands_at hst ht
  have hq' : ((placesL ks p).map fun n : Nat => (n : Int))[j]? = some (q : Int) := by rw [List.getElem?_map, hq]; rfl
  refine ⟨q, hs, fun w hb => ?_⟩
  obtain ⟨b, off, x, e1, hbB, hxl, rfl, hx⟩ := (hkv.below hb).at_ hq'
  injection e1 with e1
  injection e1 with e1 e2
  subst e1 e2
  have x0 := hx 0 _ rfl
  simp only [Nat.add_zero, Nat.mul_one] at x0
  exact x0
theorem kid_form {W0 : World} {l : List ND} {p B : Nat} {ks : List Tr} {ka : Option Addr} {kn kc : Nat} (hkv : SlR W0 B 1 IsI (.slice ka kn kc) ((placesL ks p).map fun n : Nat => (n : Int))) (hst : StandsL l ks p) {j : Nat} {t : Tr} (ht : ks[j]? = some t) : ∃ kb ko, ka = some ⟨kb, ko, none⟩ := by
  obtain ⟨q, hq, hs⟩ := stands_at hst ht
  have hq' : ((placesL ks p).map fun n : Nat => (n : Int))[j]? = some (q : Int) := by rw [List.getElem?_map, hq]; rfl
  obtain ⟨b, off, x, e1, hbB, hxl, rfl, hx⟩ := hkv.at_ hq'
  exact ⟨b, off, e1⟩
theorem end_ok {f : Nat} (o : List Ins) {op a : Int} (h : op ≠ 1) (i : Nat) : StepsOk (endI (o ++ [insI op a]) i) ∧ CntOk (endI (o ++ [insI op a]) i) f := by
  have key : ∀ y, (endI (o ++ [insI op a]) i).getLast? = some y → y.op = op := by
    intro y hy
    unfold endI at hy
    rw [List.getLast?_eq_getElem?, List.length_modify, List.getElem?_modify, ← List.getLast?_eq_getElem?, List.getLast?_concat] at hy
    injection hy with hy
    subst hy
    split <;> rfl
  exact ⟨fun y hy h1 => absurd ((key y hy).symm.trans h1) h, fun y hy h1 => absurd ((key y hy).symm.trans h1) h⟩
theorem cK_ok {f : Nat} {vs : List (List Nat)} : ∀ (ts : List Tr) (out : List Ins), (∀ t ∈ ts, t.Good ∧ t.deep ≤ f) → StepsOk out ∧ CntOk out f → StepsOk (cK f vs ts out) ∧ CntOk (cK f vs ts out) f
  | [], out, _, h => h
  | t :: ts, out, hm, h => cK_ok ts _ (fun u hu => hm u (List.mem_cons_of_mem _ hu)) (last_ok (cP_last (hm t List.mem_cons_self).1 (hm t List.mem_cons_self).2 h.1))
theorem put_ok {f : Nat} (out : List Ins) {op a : Int} (h : op ≠ 1) : StepsOk (out ++ [insI op a]) ∧ CntOk (out ++ [insI op a]) f := last_ok ⟨_, _, rfl, h⟩
def NodeK (W : World) (g : Nat) (lv : Value) (out' : List Ins) (vs : List (List Nat)) (e : Ending) (w' : World) : Prop :=
  e = .returned (.tuple #[]) ∧ ∃ ov' vv', MkSt w' g lv ov' vv' out' vs ∧ KT W w' g
theorem nodeK_of {W w' : World} {g : Nat} {lv ov' vv' : Value} {out' : List Ins} {vs : List (List Nat)} (h : MkSt w' g lv ov' vv' out' vs) (k : KT W w' g) : NodeK W g lv out' vs (.returned (.tuple #[])) w' := ⟨rfl, _, _, h, k⟩
def NodeIs (l : List ND) (lv : Value) (W0 : World) (g f : Nat) : Prop := ∀ (t : Tr) (p : Nat) (vs : List (List Nat)) (W : World) (ov vv : Value) (out : List Ins), NPre l lv W0 g f t p vs W ov vv out →
  Calls Tryz.prog 26 #[.pointer (some ⟨g, 0, none⟩), .int .i64 (p : Int)] W (NodeK W g lv (cP f t vs out) vs)
end Go.Proofs.YtdkoafmgenbkbaaGreatDoor
