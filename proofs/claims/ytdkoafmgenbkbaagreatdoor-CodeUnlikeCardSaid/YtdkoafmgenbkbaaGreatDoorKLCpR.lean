/- - -/
import Derived.Test.YtdkoafmgenbkbaaGreatDoorKM8
set_option maxRecDepth 100000
set_option maxHeartbeats 32000000
set_option linter.unusedSimpArgs false
set_option linter.unusedVariables false
namespace Go.Proofs.YtdkoafmgenbkbaaGreatDoor
open Go.RowKit
theorem info_Str : (Tryz.prog.info? 9).map (fun i => (i.zero, i.size, i.bytes)) = some (some (.string ⟨#[]⟩), 1, 16) := by kernel_rfl
theorem IsTx.one (x : List Value) (y : List Nat) (hx : IsTx x y) : ∀ u ∈ x, u.oneCell' = true := by
  intro u hu
  unfold IsTx at hx
  subst hx
  simp at hu
  subst hu
  rfl
theorem modify_last (h : Ins → Ins) : ∀ (ys : List Ins) (x : Ins), (ys ++ [x]).modify ys.length h = ys ++ [h x]
  | [], x => rfl
  | y :: ys, x => by
    rw [List.cons_append, List.length_cons, List.modify_succ_cons, modify_last h ys x, List.cons_append]
theorem step_last {out : List Ins} {x : Ins} (hl : out.getLast? = some x) (h1 : x.op = 1) {m : Nat} (hm : out.length = m + 1) : stepI out = out.modify m fun y => { y with arg := x.arg + 1 } := by
  obtain ⟨ys, rfl⟩ := List.getLast?_eq_some_iff.1 hl
  have hy : ys.length = m := by simpa using hm
  unfold stepI
  rw [hl]
  simp only [if_pos h1]
  rw [← hy, modify_last, List.dropLast_concat]
theorem node_step {l : List ND} {lv : Value} {W0 : World} {g f : Nat} (ih : NodeIs l lv W0 g f) : NodeIs l lv W0 g (f + 1) := by
  intro t p vs W ov vv out H
  obtain ⟨k, s, n, ks⟩ := t
  obtain ⟨hd, hks⟩ := stands_node H.st
  obtain ⟨la, lc, rfl, _, _⟩ := H.hs.form
  have hpl := (List.getElem?_eq_some_iff.1 hd).1
  obtain ⟨b, off, x, rfl, hbB, hxl, ⟨kv, rfl, hkv⟩, hx⟩ := (H.hs.below H.hw).at_ hd
  obtain ⟨ka, kc, rfl, _, _⟩ := hkv.form
  simp only [List.length_map, places_len] at hkv hx
  have x0 := hx 0 _ rfl
  have x1 := hx 1 _ rfl
  have x2 := hx 2 _ rfl
  have x3 := hx 3 _ rfl
  simp only [Nat.add_zero] at x0
  obtain ⟨oa, oc, rfl⟩ := H.ms.own.form
  obtain ⟨no, hno⟩ : ∃ n, out.length = n := ⟨_, rfl⟩
  obtain ⟨nl, hnl⟩ : ∃ n, l.length = n := ⟨_, rfl⟩
  have hms := H.ms
  have hlen := H.len
  rw [hno] at hms hlen
  rw [hnl] at hms hpl H ih ⊢
  have c0 : W.cell? ⟨g, 0, none⟩ = some (.slice (some ⟨b, off, none⟩) nl lc) := hms.blk.cell rfl
  have c1 : W.cell? ⟨g, 1, none⟩ = some (.slice oa no oc) := hms.blk.cell rfl
  have f1 := hms.blk.frozen 1
  have hgl := hms.lt
  have p0 : (0 : Int) ≤ (p : Int) := Int.natCast_nonneg _
  have p1 : (p : Int) < (nl : Int) := by omega
  obtain ⟨jI, hi, hz, hsz, hby⟩ := info_parts info_Ins
  have I := zH (And.intro hi (And.intro hz (And.intro hsz hby)))
  have HH := zH H
  have HM0 := zH hms
  have HN := zH hno
  have HNL := zH hnl
  have HL : Hid (no ≤ 100000) := zH (by omega)
  have HKV := zH hkv
  have HKS := zH hks
  have IH := zH ih
  have hno2 : (no : Int) ≤ 100000 := by omega
  obtain ⟨bs, hbs⟩ : ∃ x : Bool, (match out.getLast? with | some x => decide (x.op = 1) | none => false) = x := ⟨_, rfl⟩
  have HBS := zH hbs
  clear hi hz hsz hby H hd hkv hx hxl hks ih hms hno hnl hlen hbs
  go_enter Tryz.func26, Tryz.ntmps26
  go_upto_region 2 with fail
  have B4 := Blk.new W 45 #[.int .i64 (k : Int), .string (txt s), .int .i64 n, .slice ka ks.length kc]
  have n0 : (W.alloc (.cells #[.int .i64 (k : Int), .string (txt s), .int .i64 n, .slice ka ks.length kc] 45)).cell? ⟨W.heap.size, 0, none⟩ = some (.int .i64 (k : Int)) := B4.cell rfl
  have M1 := zH (HM0.out.alloc (.cells #[.int .i64 (k : Int), .string (txt s), .int .i64 n, .slice ka ks.length kc] 45))
  have d1 : (W.alloc (.cells #[.int .i64 (k : Int), .string (txt s), .int .i64 n, .slice ka ks.length kc] 45)).cell? ⟨g, 1, none⟩ = some (.slice oa no oc) := M1.out.blk.cell rfl
  have df1 := M1.out.blk.frozen 1
  have KT1 := zH (KT.of_below ((Below.refl W.heap.size W).alloc zL (.cells #[.int .i64 (k : Int), .string (txt s), .int .i64 n, .slice ka ks.length kc] 45)) (Nat.le_of_lt hgl))
  have H4 := zH B4
  have lg : g < (W.alloc (.cells #[.int .i64 (k : Int), .string (txt s), .int .i64 n, .slice ka ks.length kc] 45)).heap.size := M1.out.lt
  have lq : W.heap.size < (W.alloc (.cells #[.int .i64 (k : Int), .string (txt s), .int .i64 n, .slice ka ks.length kc] 45)).heap.size := B4.lt
  generalize hW1 : W.alloc (.cells #[.int .i64 (k : Int), .string (txt s), .int .i64 n, .slice ka ks.length kc] 45) = W1 at *
  clear B4 c0 c1 f1 x0 x1 x2 x3
  obtain ⟨q, hq⟩ : ∃ q, W.heap.size = q := ⟨_, rfl⟩
  rw [hq] at n0 H4 lq ⊢
  clear hW1 hq
  go_cut [5, 38] from 20 to 38 (fun v5 v wx => v5 = .int .i64 ((no : Int) - 1) ∧ v = .bool bs ∧ W1 = wx)
  case first =>
    rcases hl : out.getLast? with _ | x
    · have h0 : out = [] := List.getLast?_eq_none_iff.1 hl
      have hno0 : no = 0 := by rw [← HN.out, h0]; rfl
      have hb0 : bs = false := by rw [← HBS.out, hl]
      subst hno0 hb0
      clear hl
      go_wp2_with fail
      go_meet
      exact ⟨by simp, rfl, rfl⟩
    · obtain ⟨m, hm⟩ : ∃ m, no = m + 1 := ⟨no - 1, by
        have : out ≠ [] := by intro e; rw [e] at hl; cases hl
        have := List.length_pos_iff.2 this
        rw [HN.out] at this
        omega⟩
      have hx : out[m]? = some x := by rw [List.getLast?_eq_getElem?, HN.out, hm] at hl; exact hl
      obtain ⟨ob, oc', e1, y0, y1, yf, hbl, hok⟩ := M1.out.own.arg hx
      injection e1 with e1 e2 e3
      subst e1 e3
      have hbe : decide (x.op = 1) = bs := by rw [← HBS.out, hl]
      subst hm
      have hm3 : ((m + 1 : Nat) : Int) - 1 = (m : Int) := by omega
      have hm0 : (0 : Int) ≤ (m : Int) := Int.natCast_nonneg _
      have hm5 : (m : Int) < ((m + 1 : Nat) : Int) := by omega
      have hm6 : (m : Int) < (m : Int) + 1 := by omega
      clear hl hx hok y1 yf e2
      rcases bs with _ | _
      · have hx1 : (x.op == 1) = false := by simpa using hbe
        clear hbe
        go_wp2_with fail
        go_meet
        exact ⟨by rw [hm3], rfl, rfl⟩
      · have hx1 : (x.op == 1) = true := by simpa using hbe
        clear hbe
        go_wp2_with fail
        go_meet
        exact ⟨by rw [hm3], rfl, rfl⟩
  case rest =>
    obtain ⟨rfl, rfl, rfl⟩ := hcut
    go_upto_if 38 with fail
    go_cut [5] from 20 to 59 (fun _ wx => ∃ ov' : Value, Hid (MkSt wx g (.slice (some ⟨b, off, none⟩) nl lc) ov' vv (stepI out) vs ∧ KT W wx g ∧ Blk wx q 45 #[.int .i64 (k : Int), .string (txt s), .int .i64 n, .slice ka ks.length kc]))
    case first =>
      rcases bs with _ | _
      · have hst : stepI out = out ++ [⟨1, 1, 0, ⟨#[]⟩⟩] := by
          have hb := HBS.out
          unfold stepI
          rcases hl : out.getLast? with _ | x
          · rfl
          · rw [hl] at hb
            simp only [decide_eq_false_iff_not] at hb
            simp only [if_neg hb]
            rfl
        have HST := zH hst
        clear hst
        go_wp2_with (first
          | (at_builtin
             go_must (refine wpList_append_list rfl (.tmp 54) (.tmp 56) _ (by rfl) (g + 1) (W1.heap.size + 1) 42 jI _ 4 40 Tryz.underlying22 I.out.1 I.out.2.1 I.out.2.2.1 I.out.2.2.2 rfl (by omega) (R := Ins.Is) (l := out) (m := [⟨1, 1, 0, ⟨#[]⟩⟩]) (.slice oa no oc) (by rfl) (by exact (M1.out.alloc (.cells #[.int .i64 1, .int .i64 1, .int .i64 0, .string ⟨#[]⟩] 42)).own) (some ⟨W1.heap.size, 0, none⟩) 1 1 (by rfl) (SlR.new1 (w := W1) (e := 42) (g := W1.heap.size) rfl (x := [.int .i64 1, .int .i64 1, .int .i64 0, .string ⟨#[]⟩]) rfl (R := Ins.Is) (y := ⟨1, 1, 0, ⟨#[]⟩⟩) ⟨rfl, ins_ok (by omega) (by omega) (by omega) (by omega) (by omega) (by omega) nil_size⟩) (no + 1) (by rw [HN.out]) Ins.Is.one (by have := HL.out; have := HN.out; unfold maxLen; omega) (by have := HL.out; have := HN.out; omega) (by have := M1.out.lt; simp; omega) ?_)
             intro a5 cc5 w5 hown hgr
             go_must (have K5 := MkSt.push (M1.out.alloc (.cells #[.int .i64 1, .int .i64 1, .int .i64 0, .string ⟨#[]⟩] 42)) hown hgr)
             go_must (have b5 := (M1.out.alloc (.cells #[.int .i64 1, .int .i64 1, .int .i64 0, .string ⟨#[]⟩] 42)).blk.grown hgr (fun e => by have := (M1.out.own.block g e.symm).1; omega))
             have m5 : w5.cell? ⟨g, 1, none⟩ = some (.slice oa no oc) := b5.cell rfl
             have mf5 := b5.frozen 1
             have HK := zH K5
             clear K5 b5 hown hgr)
          | fail)
        go_meet
        rw [HST.out]
        refine ⟨_, zH ⟨HK.out.1, (KT1.out.trans (KT.of_below (zB.alloc zL _) (Nat.le_of_lt lg))).trans HK.out.2, ?_⟩⟩
        exact HK.out.2.typ _ _ _ (by decide) (by decide) (by decide) (H4.out.alloc _)
      · have hex : ∃ x, out.getLast? = some x ∧ x.op = 1 := by
          have hb := HBS.out
          rcases hl : out.getLast? with _ | x
          · rw [hl] at hb; cases hb
          · rw [hl] at hb; exact ⟨x, rfl, by simpa using hb⟩
        obtain ⟨x, hl, hx1⟩ := hex
        obtain ⟨m, hm⟩ : ∃ m, no = m + 1 := ⟨no - 1, by
          have : out ≠ [] := by intro e; rw [e] at hl; cases hl
          have := List.length_pos_iff.2 this
          rw [HN.out] at this
          omega⟩
        have hx : out[m]? = some x := by rw [List.getLast?_eq_getElem?, HN.out, hm] at hl; exact hl
        obtain ⟨ob, oc', e1, y0, y1, yf, hbl, hok⟩ := M1.out.own.arg hx
        injection e1 with e1 e2 e3
        subst e1 e3
        have hcn := HH.out.cnt x hl hx1
        have hA := M1.out.arg (i := m) (by rw [HN.out]; omega) (v := x.arg + 1) (wf47 (by omega) (by omega))
        have hst := step_last hl hx1 (m := m) (by rw [HN.out]; exact hm)
        have HST := zH hst
        have HA := zH hA
        have wr1 : IntKind.i64.wrap (x.arg + 1) = x.arg + 1 := by rw [IntKind.wrap_i64]; omega
        have hrg : 0 ≤ x.arg ∧ x.arg ≤ 1000 := by omega
        obtain ⟨hrg1, hrg2⟩ := hrg
        subst hm
        have hm3 : ((m + 1 : Nat) : Int) - 1 = (m : Int) := by omega
        have hm0 : (0 : Int) ≤ (m : Int) := Int.natCast_nonneg _
        have hm5 : (m : Int) < ((m + 1 : Nat) : Int) := by omega
        have hm6 : (m : Int) < (m : Int) + 1 := by omega
        rw [hm3]
        clear hl hx hok e2 hcn hA hst hm3
        go_wp2_with fail
        go_meet
        rw [HST.out]
        refine ⟨_, zH ⟨HA.out.1, KT1.out.trans HA.out.2, ?_⟩⟩
        exact HA.out.2.typ _ _ _ (by decide) (by decide) (by decide) H4.out
    case rest =>
      obtain ⟨ov, hk⟩ := hcut
      obtain ⟨o1, ho1⟩ : ∃ x, stepI out = x := ⟨_, rfl⟩
      rw [ho1] at hk
      have HO1 := zH ho1
      have hol : o1.length ≤ no + 1 := by rw [← ho1, ← HN.out]; exact step_len out
      have hse := step_eq HH.out.ok
      have hs1 : StepsOk o1 := by rw [← ho1]; exact hse.2.2.2
      have hc1 : CntOk o1 f := by
        rw [← ho1, hse.1]
        intro y hy _
        rw [List.getLast?_concat] at hy
        injection hy with hy
        subst hy
        show 0 ≤ cntI out + 1 ∧ cntI out + 1 + (f : Int) ≤ 1000
        have h1 := HH.out.vlen
        unfold cntI
        rcases hl : out.getLast? with _ | x
        · simp; omega
        · by_cases h1 : x.op = 1
          · have := HH.out.cnt x hl h1
            simp only [if_pos h1]
            omega
          · simp only [if_neg h1]
            omega
      have HS1 := zH (And.intro hs1 hc1)
      obtain ⟨oa, oc, rfl⟩ := hk.out.1.own.form
      obtain ⟨n1, hn1⟩ : ∃ n, o1.length = n := ⟨_, rfl⟩
      rw [hn1] at hk hol
      have M := zH hk.out.1
      have KT0 := zH hk.out.2.1
      have NB := zH hk.out.2.2
      have hnoe := HN.out
      clear HM0 HN HL M1 KT1 H4 hk ho1 hse hs1 hc1 d1 df1 n0 lg lq
      have HN := zH hn1
      have HL : Hid (n1 ≤ 100000) := zH (by have := HH.out.len; simp only [Tr.size] at this; omega)
      have HLN := zH (show n1 + 4 * sizeL ks + 3 ≤ 10000 by have := HH.out.len; simp only [Tr.size] at this; rw [hnoe] at this; omega)
      have d0 : wc.cell? ⟨g, 1, none⟩ = some (.slice oa n1 oc) := M.out.blk.cell rfl
      have df := M.out.blk.frozen 1
      have lg : g < wc.heap.size := M.out.lt
      obtain ⟨n0, n1', n2, n3⟩ := NB.out.k4
      have lq : q < wc.heap.size := NB.out.lt
      clear hn1 hol hno2 hnoe
      have hnd := HH.out.good.1
      have hsl := shape_len hnd.1
      have hsh := shape_cases hnd.1
      have HND := zH hnd
      have HSL := zH hsl
      clear hnd hsl
      have HVB := zH HH.out.vb
      have hcase : k = 1 ∨ k = 2 ∨ k = 7 ∨ ((k = 27 ∨ k = 28) ∨ k = 30 ∨ (k = 31 ∨ k = 32 ∨ k = 33 ∨ k = 34)) ∨ ((ks = [] ∧ 3 ≤ k ∧ k ≤ 6) ∨ ((∃ a, ks = [a]) ∧ ((8 ≤ k ∧ k ≤ 19) ∨ k = 29)) ∨ ((∃ a b, ks = [a, b]) ∧ 20 ≤ k ∧ k ≤ 26)) := by
        rcases hsh with ⟨h, _⟩ | ⟨a, h, h2⟩ | ⟨a, b, h, h2⟩ | ⟨a, b, c, h, h2⟩
        · by_cases h3 : 3 ≤ k ∧ k ≤ 6
          · exact .inr (.inr (.inr (.inr (.inl ⟨h, h3⟩))))
          · omega
        · exact .inr (.inr (.inr (.inr (.inr (.inl ⟨⟨a, h⟩, h2⟩)))))
        · by_cases h3 : 20 ≤ k ∧ k ≤ 26
          · exact .inr (.inr (.inr (.inr (.inr (.inr ⟨⟨a, b, h⟩, h3⟩)))))
          · omega
        · omega
      rcases hcase with k1 | k2 | k7 | kx | kd
      · subst k1
        have hks0 : ks = [] := by rcases hsh with ⟨h, _⟩ | ⟨a, _, h⟩ | ⟨a, b, _, h⟩ | ⟨a, b, c, _, h⟩; exact h; all_goals omega
        subst hks0
        clear hsh
        go_wp2_with fail
        go_region_law (first
          | (skip
             go_must (refine step_append_list rfl (.tmp 94) (.tmp 98) _ (by rfl) (g + 1) (wc.heap.size + 1) 42 jI _ 4 40 Tryz.underlying22 I.out.1 I.out.2.1 I.out.2.2.1 I.out.2.2.2 rfl (by omega) (R := Ins.Is) (l := o1) (m := [⟨2, 0, n, ⟨#[]⟩⟩]) (.slice oa n1 oc) (by rfl) (by exact ((M.out.alloc (.cells #[.int .i64 2, .int .i64 0, .int .i64 n, .string ⟨#[]⟩] 42)).drew).own) (some ⟨wc.heap.size, 0, none⟩) 1 1 (by rfl) (by exact SlR.new1 (w := wc) (e := 42) (g := wc.heap.size) rfl (x := [.int .i64 2, .int .i64 0, .int .i64 n, .string ⟨#[]⟩]) rfl (R := Ins.Is) (y := ⟨2, 0, n, ⟨#[]⟩⟩) ⟨rfl, ins_ok (by omega) (by omega) (by omega) (by omega) HND.out.2.2.1 HND.out.2.2.2 nil_size⟩) (n1 + 1) (by rw [HN.out]) Ins.Is.one (by have := HL.out; have := HN.out; unfold maxLen; omega) (by have := HL.out; have := HN.out; omega) (by have := M.out.lt; simp; omega) ?_)
             intro a5 cc5 w5 hown hgr
             go_must (have K5 := MkSt.push ((M.out.alloc (.cells #[.int .i64 2, .int .i64 0, .int .i64 n, .string ⟨#[]⟩] 42)).drew) hown hgr)
             go_must (have b5 := ((M.out.alloc (.cells #[.int .i64 2, .int .i64 0, .int .i64 n, .string ⟨#[]⟩] 42)).drew).blk.grown hgr (fun e => by have := (M.out.own.block g e.symm).1; omega))
             have m5 : w5.cell? ⟨g, 1, none⟩ = some (.slice oa n1 oc) := b5.cell rfl
             have mf5 := b5.frozen 1
             have HK := zH K5
             clear K5 b5 hown hgr)
          | fail)
        all_goals
          go_wp2_with fail
          go_end0
          rw [show cP (f + 1) (.node 1 s n []) vs out = o1 ++ [⟨2, 0, n, ⟨#[]⟩⟩] by simp only [cP, HO1.out, leafI]; rfl]
          exact nodeK_of HK.out.1 (KT0.out.trans ((KT.of_below (zB.alloc zL _).drew (Nat.le_of_lt lg)).trans HK.out.2))
      · subst k2
        have hks0 : ks = [] := by rcases hsh with ⟨h, _⟩ | ⟨a, _, h⟩ | ⟨a, b, _, h⟩ | ⟨a, b, c, _, h⟩; exact h; all_goals omega
        subst hks0
        clear hsh
        have HSZ : Hid ((txt s).size ≤ maxLen) := zH (by rw [txt_size]; have := HSL.out; unfold maxLen; omega)
        go_wp2_with fail
        go_region_law (first
          | (skip
             go_must (refine step_append_list rfl (.tmp 108) (.tmp 112) _ (by rfl) (g + 1) (wc.heap.size + 1) 42 jI _ 4 40 Tryz.underlying22 I.out.1 I.out.2.1 I.out.2.2.1 I.out.2.2.2 rfl (by omega) (R := Ins.Is) (l := o1) (m := [⟨3, 0, 0, txt s⟩]) (.slice oa n1 oc) (by rfl) (by exact ((M.out.alloc (.cells #[.int .i64 3, .int .i64 0, .int .i64 0, .string (txt s)] 42)).drew).own) (some ⟨wc.heap.size, 0, none⟩) 1 1 (by rfl) (by exact SlR.new1 (w := wc) (e := 42) (g := wc.heap.size) rfl (x := [.int .i64 3, .int .i64 0, .int .i64 0, .string (txt s)]) rfl (R := Ins.Is) (y := ⟨3, 0, 0, txt s⟩) ⟨rfl, ins_ok (by omega) (by omega) (by omega) (by omega) (by omega) (by omega) HSZ.out⟩) (n1 + 1) (by rw [HN.out]) Ins.Is.one (by have := HL.out; have := HN.out; unfold maxLen; omega) (by have := HL.out; have := HN.out; omega) (by have := M.out.lt; simp; omega) ?_)
             intro a5 cc5 w5 hown hgr
             go_must (have K5 := MkSt.push ((M.out.alloc (.cells #[.int .i64 3, .int .i64 0, .int .i64 0, .string (txt s)] 42)).drew) hown hgr)
             go_must (have b5 := ((M.out.alloc (.cells #[.int .i64 3, .int .i64 0, .int .i64 0, .string (txt s)] 42)).drew).blk.grown hgr (fun e => by have := (M.out.own.block g e.symm).1; omega))
             have m5 : w5.cell? ⟨g, 1, none⟩ = some (.slice oa n1 oc) := b5.cell rfl
             have mf5 := b5.frozen 1
             have HK := zH K5
             clear K5 b5 hown hgr)
          | fail)
        all_goals
          go_wp2_with fail
          go_end0
          rw [show cP (f + 1) (.node 2 s n []) vs out = o1 ++ [⟨3, 0, 0, txt s⟩] by simp only [cP, HO1.out, leafI]; rfl]
          exact nodeK_of HK.out.1 (KT0.out.trans ((KT.of_below (zB.alloc zL _).drew (Nat.le_of_lt lg)).trans HK.out.2))
      · subst k7
        have hks0 : ks = [] := by rcases hsh with ⟨h, _⟩ | ⟨a, _, h⟩ | ⟨a, b, _, h⟩ | ⟨a, b, c, _, h⟩; exact h; all_goals omega
        subst hks0
        clear hsh
        have VAR := zH (variable_any s M.out HND.out.2.1 HVB.out (by rw [HN.out]; exact HL.out))
        go_wp2_with (first
          | (go_at_call 42; go_must (refine VAR.out.mono ?_); rintro e w5 ⟨rfl, ov', hk1, hk2⟩; go_must (have K5 := zH (And.intro hk1 hk2)); clear hk1 hk2)
          | fail)
        go_end0
        rw [show cP (f + 1) (.node 7 s n []) vs out = o1 ++ [varI vs s] by simp only [cP, HO1.out, leafI]; rfl]
        exact nodeK_of K5.out.1 (KT0.out.trans K5.out.2)
      · rcases kx with k27 | k30 | k31
        · obtain ⟨a, b, rfl⟩ : ∃ a b, ks = [a, b] := by rcases hsh with ⟨_, _⟩ | ⟨a, _, h⟩ | ⟨a, b, h, _⟩ | ⟨a, b, c, h, _⟩; omega; omega; exact ⟨a, b, h⟩; omega
          clear hsh
          obtain ⟨kb, ko, rfl⟩ := kid_form HKV.out HKS.out (j := 0) (t := a) rfl
          obtain ⟨qa, sa, ca⟩ := kid_cell HKV.out HKS.out (j := 0) (t := a) rfl
          obtain ⟨qb, sb, cb⟩ := kid_cell HKV.out HKS.out (j := 1) (t := b) rfl
          have lA : n1 + 4 * a.size + 4 * b.size + 3 ≤ 10000 := by have := HLN.out; simp only [sizeL] at this; omega
          have xa : wc.cell? ⟨kb, ko, none⟩ = _ := ca wc (HH.out.hw.trans (KT0.out.bel.mono HH.out.hg))
          have CB := zH cb
          have SB := zH sb
          obtain ⟨o2, ho2⟩ : ∃ x, cP f a vs o1 = x := ⟨_, rfl⟩
          have l2 := cP_len f a vs o1
          rw [ho2, HN.out] at l2
          have HO2 := zH ho2
          have Pwc := zH (NPre.kid (j := 0) HH.out rfl sa KT0.out M.out HVB.out HS1.out (by rw [HN.out]; omega) (by omega))
          have Kwc := KT0
          have Bwc := NB
          clear ca sa cb sb ho2
          rcases k27 with rfl | rfl
          · obtain ⟨o4, ho4⟩ : ∃ x, cP f b vs (o2 ++ [insI 30 0]) = x := ⟨_, rfl⟩
            have l4 := cP_len f b vs (o2 ++ [insI 30 0])
            rw [ho4, List.length_append] at l4
            simp only [List.length_cons, List.length_nil] at l4
            have hcp : cP (f + 1) (.node 27 s n [a, b]) vs out = endI (o4 ++ [insI 32 0]) o2.length := by rw [← ho4, ← HO2.out, ← HO1.out]; simp only [cP]; rw [if_pos (by decide)]; rfl
            have HCP := zH hcp
            have HO4 := zH ho4
            have L2 : Hid (o2.length + 1 + 4 * b.size ≤ 10000 ∧ o2.length ≤ 10000) := zH (by omega)
            have L4 : Hid (o4.length + 1 ≤ 10000 ∧ o2.length < o4.length + 1) := zH (by have := cP_ge f b vs (o2 ++ [insI 30 0]); rw [ho4] at this; simp at this; omega)
            clear hcp ho4 l2 l4 lA
            have tokwA : True := trivial
            have tokwH : True := trivial
            have tokwB : True := trivial
            have tokwP : True := trivial
            have tokwF : True := trivial
            go_wp2_with (first
                | (have _t := tokwA; go_at_call 26; go_must (refine (IH.out a qa vs wc _ _ o1 Pwc.out).mono ?_); clear tokwA _t; rintro e wA ⟨rfl, ovwA, vvwA, hk1, hk2⟩; go_must (have MwA := zH hk1); go_must (have KwA := zH (Kwc.out.trans hk2)); go_must (have BwA := zH (hk2.typ _ _ _ (by decide) (by decide) (by decide) Bwc.out)); rw [HO2.out] at MwA; have n0wA : (wA).cell? ⟨q, 0, none⟩ = some (.int .i64 (27 : Int)) := BwA.out.cell rfl; have n3wA : (wA).cell? ⟨q, 3, none⟩ = some (.slice (some ⟨kb, ko, none⟩) [a, b].length kc) := BwA.out.cell rfl; clear hk1 hk2)
                | (have _t := tokwH; go_at_call 43; go_must (refine (hole_any 30 MwA.out (by omega) (by omega) (by have := L2.out; simp [endI_len]; try omega)).mono ?_); clear tokwH _t; rintro e wH ⟨H1, H2, rfl, ⟨ovwH, hk1, hk2⟩, hb1, hb2⟩; go_must (have MwH := zH hk1); go_must (have KwH := zH (KwA.out.trans hk2)); go_must (have BwH := zH (hk2.typ _ _ _ (by decide) (by decide) (by decide) BwA.out)); go_must (have HwH := zH (And.intro hb1 hb2)); have n0wH : (wH).cell? ⟨q, 0, none⟩ = some (.int .i64 (27 : Int)) := BwH.out.cell rfl; have n3wH : (wH).cell? ⟨q, 3, none⟩ = some (.slice (some ⟨kb, ko, none⟩) [a, b].length kc) := BwH.out.cell rfl; go_must (have xwH : (wH).cell? ⟨kb, ko + 1, none⟩ = _ := CB.out wH (HH.out.hw.trans (KwH.out.bel.mono HH.out.hg))); go_must (have PwH := zH (NPre.kid (j := 1) HH.out rfl SB.out KwH.out MwH.out HVB.out (put_ok o2 (by decide)) (by have := L2.out; simp [endI_len]; try omega) (by omega))); clear hk1 hk2 hb1 hb2; unfold holeV)
                | (have _t := tokwB; go_at_call 26; go_must (refine (IH.out b qb vs wH _ _ (o2 ++ [insI 30 0]) PwH.out).mono ?_); clear tokwB _t; rintro e wB ⟨rfl, ovwB, vvwB, hk1, hk2⟩; go_must (have MwB := zH hk1); go_must (have KwB := zH (KwH.out.trans hk2)); go_must (have BwB := zH (hk2.typ _ _ _ (by decide) (by decide) (by decide) BwH.out)); rw [HO4.out] at MwB; go_must (have HwB := zH (And.intro (hk2.typ _ _ _ (by decide) (by decide) (by decide) HwH.out.1) (hk2.typ _ _ _ (by decide) (by decide) (by decide) HwH.out.2))); clear hk1 hk2)
                | (have _t := tokwP; go_at_call 44; go_must (refine (put_any 32 MwB.out (by omega) (by omega) (by have := L4.out; simp [endI_len]; try omega)).mono ?_); clear tokwP _t; rintro e wP ⟨rfl, ovwP, hk1, hk2⟩; go_must (have MwP := zH hk1); go_must (have KwP := zH (KwB.out.trans hk2)); go_must (have BwP := zH (hk2.typ _ _ _ (by decide) (by decide) (by decide) BwB.out)); go_must (have HwP := zH (And.intro (hk2.typ _ _ _ (by decide) (by decide) (by decide) HwB.out.1) (hk2.typ _ _ _ (by decide) (by decide) (by decide) HwB.out.2))); clear hk1 hk2)
                | (have _t := tokwF; go_at_call 61; go_must (refine (fill_any (i := o2.length) MwP.out HwP.out.1 HwP.out.2 (by have := L4.out; simp [endI_len]; try omega) (by have := L4.out; simp [endI_len]; try omega)).mono ?_); clear tokwF _t; rintro e wF ⟨rfl, hk1, hk2⟩; go_must (have MwF := zH hk1); go_must (have KwF := zH (KwP.out.trans hk2)); go_must (have BwF := zH (hk2.typ _ _ _ (by decide) (by decide) (by decide) BwP.out)); clear hk1 hk2)
                | fail)
            go_end0
            rw [HCP.out]
            exact nodeK_of MwF.out KwF.out
          · obtain ⟨o4, ho4⟩ : ∃ x, cP f b vs (o2 ++ [insI 31 0]) = x := ⟨_, rfl⟩
            have l4 := cP_len f b vs (o2 ++ [insI 31 0])
            rw [ho4, List.length_append] at l4
            simp only [List.length_cons, List.length_nil] at l4
            have hcp : cP (f + 1) (.node 28 s n [a, b]) vs out = endI (o4 ++ [insI 32 0]) o2.length := by rw [← ho4, ← HO2.out, ← HO1.out]; simp only [cP]; rw [if_pos (by decide)]; rfl
            have HCP := zH hcp
            have HO4 := zH ho4
            have L2 : Hid (o2.length + 1 + 4 * b.size ≤ 10000 ∧ o2.length ≤ 10000) := zH (by omega)
            have L4 : Hid (o4.length + 1 ≤ 10000 ∧ o2.length < o4.length + 1) := zH (by have := cP_ge f b vs (o2 ++ [insI 31 0]); rw [ho4] at this; simp at this; omega)
            clear hcp ho4 l2 l4 lA
            have tokwA : True := trivial
            have tokwH : True := trivial
            have tokwB : True := trivial
            have tokwP : True := trivial
            have tokwF : True := trivial
            go_wp2_with (first
                | (have _t := tokwA; go_at_call 26; go_must (refine (IH.out a qa vs wc _ _ o1 Pwc.out).mono ?_); clear tokwA _t; rintro e wA ⟨rfl, ovwA, vvwA, hk1, hk2⟩; go_must (have MwA := zH hk1); go_must (have KwA := zH (Kwc.out.trans hk2)); go_must (have BwA := zH (hk2.typ _ _ _ (by decide) (by decide) (by decide) Bwc.out)); rw [HO2.out] at MwA; have n0wA : (wA).cell? ⟨q, 0, none⟩ = some (.int .i64 (28 : Int)) := BwA.out.cell rfl; have n3wA : (wA).cell? ⟨q, 3, none⟩ = some (.slice (some ⟨kb, ko, none⟩) [a, b].length kc) := BwA.out.cell rfl; clear hk1 hk2)
                | (have _t := tokwH; go_at_call 43; go_must (refine (hole_any 31 MwA.out (by omega) (by omega) (by have := L2.out; simp [endI_len]; try omega)).mono ?_); clear tokwH _t; rintro e wH ⟨H1, H2, rfl, ⟨ovwH, hk1, hk2⟩, hb1, hb2⟩; go_must (have MwH := zH hk1); go_must (have KwH := zH (KwA.out.trans hk2)); go_must (have BwH := zH (hk2.typ _ _ _ (by decide) (by decide) (by decide) BwA.out)); go_must (have HwH := zH (And.intro hb1 hb2)); have n0wH : (wH).cell? ⟨q, 0, none⟩ = some (.int .i64 (28 : Int)) := BwH.out.cell rfl; have n3wH : (wH).cell? ⟨q, 3, none⟩ = some (.slice (some ⟨kb, ko, none⟩) [a, b].length kc) := BwH.out.cell rfl; go_must (have xwH : (wH).cell? ⟨kb, ko + 1, none⟩ = _ := CB.out wH (HH.out.hw.trans (KwH.out.bel.mono HH.out.hg))); go_must (have PwH := zH (NPre.kid (j := 1) HH.out rfl SB.out KwH.out MwH.out HVB.out (put_ok o2 (by decide)) (by have := L2.out; simp [endI_len]; try omega) (by omega))); clear hk1 hk2 hb1 hb2; unfold holeV)
                | (have _t := tokwB; go_at_call 26; go_must (refine (IH.out b qb vs wH _ _ (o2 ++ [insI 31 0]) PwH.out).mono ?_); clear tokwB _t; rintro e wB ⟨rfl, ovwB, vvwB, hk1, hk2⟩; go_must (have MwB := zH hk1); go_must (have KwB := zH (KwH.out.trans hk2)); go_must (have BwB := zH (hk2.typ _ _ _ (by decide) (by decide) (by decide) BwH.out)); rw [HO4.out] at MwB; go_must (have HwB := zH (And.intro (hk2.typ _ _ _ (by decide) (by decide) (by decide) HwH.out.1) (hk2.typ _ _ _ (by decide) (by decide) (by decide) HwH.out.2))); clear hk1 hk2)
                | (have _t := tokwP; go_at_call 44; go_must (refine (put_any 32 MwB.out (by omega) (by omega) (by have := L4.out; simp [endI_len]; try omega)).mono ?_); clear tokwP _t; rintro e wP ⟨rfl, ovwP, hk1, hk2⟩; go_must (have MwP := zH hk1); go_must (have KwP := zH (KwB.out.trans hk2)); go_must (have BwP := zH (hk2.typ _ _ _ (by decide) (by decide) (by decide) BwB.out)); go_must (have HwP := zH (And.intro (hk2.typ _ _ _ (by decide) (by decide) (by decide) HwB.out.1) (hk2.typ _ _ _ (by decide) (by decide) (by decide) HwB.out.2))); clear hk1 hk2)
                | (have _t := tokwF; go_at_call 61; go_must (refine (fill_any (i := o2.length) MwP.out HwP.out.1 HwP.out.2 (by have := L4.out; simp [endI_len]; try omega) (by have := L4.out; simp [endI_len]; try omega)).mono ?_); clear tokwF _t; rintro e wF ⟨rfl, hk1, hk2⟩; go_must (have MwF := zH hk1); go_must (have KwF := zH (KwP.out.trans hk2)); go_must (have BwF := zH (hk2.typ _ _ _ (by decide) (by decide) (by decide) BwP.out)); clear hk1 hk2)
                | fail)
            go_end0
            rw [HCP.out]
            exact nodeK_of MwF.out KwF.out
        · subst k30
          obtain ⟨a, b, c, rfl⟩ : ∃ a b c, ks = [a, b, c] := by rcases hsh with ⟨_, _⟩ | ⟨a, _, h⟩ | ⟨a, b, h, _⟩ | ⟨a, b, c, h, _⟩; omega; omega; omega; exact ⟨a, b, c, h⟩
          clear hsh
          obtain ⟨kb, ko, rfl⟩ := kid_form HKV.out HKS.out (j := 0) (t := a) rfl
          obtain ⟨qa, sa, ca⟩ := kid_cell HKV.out HKS.out (j := 0) (t := a) rfl
          obtain ⟨qb, sb, cb⟩ := kid_cell HKV.out HKS.out (j := 1) (t := b) rfl
          obtain ⟨qc, sc, cc⟩ := kid_cell HKV.out HKS.out (j := 2) (t := c) rfl
          have lA : n1 + 4 * a.size + 4 * b.size + 4 * c.size + 3 ≤ 10000 := by have := HLN.out; simp only [sizeL] at this; omega
          have xa : wc.cell? ⟨kb, ko, none⟩ = _ := ca wc (HH.out.hw.trans (KT0.out.bel.mono HH.out.hg))
          have CB := zH cb
          have SB := zH sb
          have CC := zH cc
          have SC := zH sc
          obtain ⟨o2, ho2⟩ : ∃ x, cP f a vs o1 = x := ⟨_, rfl⟩
          have l2 := cP_len f a vs o1
          rw [ho2, HN.out] at l2
          have HO2 := zH ho2
          have Pwc := zH (NPre.kid (j := 0) HH.out rfl sa KT0.out M.out HVB.out HS1.out (by rw [HN.out]; omega) (by omega))
          have Kwc := KT0
          have Bwc := NB
          clear ca sa cb sb cc sc ho2
          obtain ⟨o4, ho4⟩ : ∃ x, cP f b vs (o2 ++ [insI 33 0]) = x := ⟨_, rfl⟩
          obtain ⟨o6, ho6⟩ : ∃ x, cP f c vs (endI (o4 ++ [insI 34 0]) o2.length) = x := ⟨_, rfl⟩
          have l4 := cP_len f b vs (o2 ++ [insI 33 0])
          rw [ho4, List.length_append] at l4
          have l6 := cP_len f c vs (endI (o4 ++ [insI 34 0]) o2.length)
          rw [ho6, endI_len, List.length_append] at l6
          simp only [List.length_cons, List.length_nil] at l4 l6
          have hcp : cP (f + 1) (.node 30 s n [a, b, c]) vs out = endI o6 o4.length := by rw [← ho6, ← ho4, ← HO2.out, ← HO1.out]; rfl
          have HCP := zH hcp
          have HO4 := zH ho4
          have HO6 := zH ho6
          have L2 : Hid (o2.length + 1 + 4 * b.size ≤ 10000 ∧ o2.length ≤ 10000) := zH (by omega)
          have L4 : Hid (o4.length + 1 + 4 * c.size ≤ 10000 ∧ o2.length < o4.length + 1) := zH (by have := cP_ge f b vs (o2 ++ [insI 33 0]); rw [ho4] at this; simp at this; omega)
          have L6 : Hid (o6.length ≤ 10000 ∧ o4.length < o6.length) := zH (by have := cP_ge f c vs (endI (o4 ++ [insI 34 0]) o2.length); rw [ho6, endI_len] at this; simp at this; omega)
          clear hcp ho4 ho6 l2 l4 l6 lA
          have tokwA : True := trivial
          have tokwH : True := trivial
          have tokwB : True := trivial
          have tokwJ : True := trivial
          have tokwE : True := trivial
          have tokwC : True := trivial
          have tokwF : True := trivial
          go_wp2_with (first
              | (have _t := tokwA; go_at_call 26; go_must (refine (IH.out a qa vs wc _ _ o1 Pwc.out).mono ?_); clear tokwA _t; rintro e wA ⟨rfl, ovwA, vvwA, hk1, hk2⟩; go_must (have MwA := zH hk1); go_must (have KwA := zH (Kwc.out.trans hk2)); go_must (have BwA := zH (hk2.typ _ _ _ (by decide) (by decide) (by decide) Bwc.out)); rw [HO2.out] at MwA; have n0wA : (wA).cell? ⟨q, 0, none⟩ = some (.int .i64 (30 : Int)) := BwA.out.cell rfl; have n3wA : (wA).cell? ⟨q, 3, none⟩ = some (.slice (some ⟨kb, ko, none⟩) [a, b, c].length kc) := BwA.out.cell rfl; clear hk1 hk2)
              | (have _t := tokwH; go_at_call 43; go_must (refine (hole_any 33 MwA.out (by omega) (by omega) (by have := L2.out; simp [endI_len]; try omega)).mono ?_); clear tokwH _t; rintro e wH ⟨H1, H2, rfl, ⟨ovwH, hk1, hk2⟩, hb1, hb2⟩; go_must (have MwH := zH hk1); go_must (have KwH := zH (KwA.out.trans hk2)); go_must (have BwH := zH (hk2.typ _ _ _ (by decide) (by decide) (by decide) BwA.out)); go_must (have HwH := zH (And.intro hb1 hb2)); have n0wH : (wH).cell? ⟨q, 0, none⟩ = some (.int .i64 (30 : Int)) := BwH.out.cell rfl; have n3wH : (wH).cell? ⟨q, 3, none⟩ = some (.slice (some ⟨kb, ko, none⟩) [a, b, c].length kc) := BwH.out.cell rfl; go_must (have xwH : (wH).cell? ⟨kb, ko + 1, none⟩ = _ := CB.out wH (HH.out.hw.trans (KwH.out.bel.mono HH.out.hg))); go_must (have PwH := zH (NPre.kid (j := 1) HH.out rfl SB.out KwH.out MwH.out HVB.out (put_ok o2 (by decide)) (by have := L2.out; simp [endI_len]; try omega) (by omega))); clear hk1 hk2 hb1 hb2; unfold holeV)
              | (have _t := tokwB; go_at_call 26; go_must (refine (IH.out b qb vs wH _ _ (o2 ++ [insI 33 0]) PwH.out).mono ?_); clear tokwB _t; rintro e wB ⟨rfl, ovwB, vvwB, hk1, hk2⟩; go_must (have MwB := zH hk1); go_must (have KwB := zH (KwH.out.trans hk2)); go_must (have BwB := zH (hk2.typ _ _ _ (by decide) (by decide) (by decide) BwH.out)); rw [HO4.out] at MwB; go_must (have HwB := zH (And.intro (hk2.typ _ _ _ (by decide) (by decide) (by decide) HwH.out.1) (hk2.typ _ _ _ (by decide) (by decide) (by decide) HwH.out.2))); have n0wB : (wB).cell? ⟨q, 0, none⟩ = some (.int .i64 (30 : Int)) := BwB.out.cell rfl; have n3wB : (wB).cell? ⟨q, 3, none⟩ = some (.slice (some ⟨kb, ko, none⟩) [a, b, c].length kc) := BwB.out.cell rfl; clear hk1 hk2)
              | (have _t := tokwJ; go_at_call 43; go_must (refine (hole_any 34 MwB.out (by omega) (by omega) (by have := L4.out; simp [endI_len]; try omega)).mono ?_); clear tokwJ _t; rintro e wJ ⟨J1, J2, rfl, ⟨ovwJ, hk1, hk2⟩, hb1, hb2⟩; go_must (have MwJ := zH hk1); go_must (have KwJ := zH (KwB.out.trans hk2)); go_must (have BwJ := zH (hk2.typ _ _ _ (by decide) (by decide) (by decide) BwB.out)); go_must (have JwJ := zH (And.intro hb1 hb2)); go_must (have HwJ := zH (And.intro (hk2.typ _ _ _ (by decide) (by decide) (by decide) HwB.out.1) (hk2.typ _ _ _ (by decide) (by decide) (by decide) HwB.out.2))); have n0wJ : (wJ).cell? ⟨q, 0, none⟩ = some (.int .i64 (30 : Int)) := BwJ.out.cell rfl; have n3wJ : (wJ).cell? ⟨q, 3, none⟩ = some (.slice (some ⟨kb, ko, none⟩) [a, b, c].length kc) := BwJ.out.cell rfl; clear hk1 hk2 hb1 hb2; unfold holeV)
              | (have _t := tokwE; go_at_call 61; go_must (refine (fill_any (i := o2.length) MwJ.out HwJ.out.1 HwJ.out.2 (by have := L4.out; simp [endI_len]; try omega) (by have := L4.out; simp [endI_len]; try omega)).mono ?_); clear tokwE _t; rintro e wE ⟨rfl, hk1, hk2⟩; go_must (have MwE := zH hk1); go_must (have KwE := zH (KwJ.out.trans hk2)); go_must (have BwE := zH (hk2.typ _ _ _ (by decide) (by decide) (by decide) BwJ.out)); go_must (have JwE := zH (And.intro (hk2.typ _ _ _ (by decide) (by decide) (by decide) JwJ.out.1) (hk2.typ _ _ _ (by decide) (by decide) (by decide) JwJ.out.2))); have n0wE : (wE).cell? ⟨q, 0, none⟩ = some (.int .i64 (30 : Int)) := BwE.out.cell rfl; have n3wE : (wE).cell? ⟨q, 3, none⟩ = some (.slice (some ⟨kb, ko, none⟩) [a, b, c].length kc) := BwE.out.cell rfl; go_must (have xwE : (wE).cell? ⟨kb, ko + 2, none⟩ = _ := CC.out wE (HH.out.hw.trans (KwE.out.bel.mono HH.out.hg))); go_must (have PwE := zH (NPre.kid (j := 2) HH.out rfl SC.out KwE.out MwE.out HVB.out (end_ok o4 (by decide) o2.length) (by have := L4.out; simp [endI_len]; try omega) (by omega))); clear hk1 hk2)
              | (have _t := tokwC; go_at_call 26; go_must (refine (IH.out c qc vs wE _ _ (endI (o4 ++ [insI 34 0]) o2.length) PwE.out).mono ?_); clear tokwC _t; rintro e wC ⟨rfl, ovwC, vvwC, hk1, hk2⟩; go_must (have MwC := zH hk1); go_must (have KwC := zH (KwE.out.trans hk2)); go_must (have BwC := zH (hk2.typ _ _ _ (by decide) (by decide) (by decide) BwE.out)); rw [HO6.out] at MwC; go_must (have JwC := zH (And.intro (hk2.typ _ _ _ (by decide) (by decide) (by decide) JwE.out.1) (hk2.typ _ _ _ (by decide) (by decide) (by decide) JwE.out.2))); clear hk1 hk2)
              | (have _t := tokwF; go_at_call 61; go_must (refine (fill_any (i := o4.length) MwC.out JwC.out.1 JwC.out.2 (by have := L6.out; simp [endI_len]; try omega) (by have := L6.out; simp [endI_len]; try omega)).mono ?_); clear tokwF _t; rintro e wF ⟨rfl, hk1, hk2⟩; go_must (have MwF := zH hk1); go_must (have KwF := zH (KwC.out.trans hk2)); go_must (have BwF := zH (hk2.typ _ _ _ (by decide) (by decide) (by decide) BwC.out)); clear hk1 hk2)
              | fail)
          go_end0
          rw [HCP.out]
          exact nodeK_of MwF.out KwF.out
        · obtain ⟨a, b_, rfl⟩ : ∃ a b_, ks = [a, b_] := by rcases hsh with ⟨_, _⟩ | ⟨a, _, h⟩ | ⟨a, b, h, _⟩ | ⟨a, b, c, h, _⟩; omega; omega; exact ⟨a, b, h⟩; omega
          clear hsh
          obtain ⟨kb, ko, rfl⟩ := kid_form HKV.out HKS.out (j := 0) (t := a) rfl
          obtain ⟨qa, sa, ca⟩ := kid_cell HKV.out HKS.out (j := 0) (t := a) rfl
          obtain ⟨qb_, sb_, cb_⟩ := kid_cell HKV.out HKS.out (j := 1) (t := b_) rfl
          have lA : n1 + 4 * a.size + 4 * b_.size + 3 ≤ 10000 := by have := HLN.out; simp only [sizeL] at this; omega
          have xa : wc.cell? ⟨kb, ko, none⟩ = _ := ca wc (HH.out.hw.trans (KT0.out.bel.mono HH.out.hg))
          have CB_ := zH cb_
          have SB_ := zH sb_
          obtain ⟨o2, ho2⟩ : ∃ x, cP f a vs o1 = x := ⟨_, rfl⟩
          have l2 := cP_len f a vs o1
          rw [ho2, HN.out] at l2
          have HO2 := zH ho2
          have Pwc := zH (NPre.kid (j := 0) HH.out rfl sa KT0.out M.out HVB.out HS1.out (by rw [HN.out]; omega) (by omega))
          have Kwc := KT0
          have Bwc := NB
          clear ca sa cb_ sb_ ho2
          rcases k31 with rfl | rfl | rfl | rfl
          · obtain ⟨o3, ho3⟩ : ∃ x, o2 ++ [insI 35 0] = x := ⟨_, rfl⟩
            obtain ⟨n3, hn3⟩ : ∃ x, o3.length = x := ⟨_, rfl⟩
            have e3 : n3 = o2.length + 1 := by rw [← hn3, ← ho3]; simp
            obtain ⟨o5, ho5⟩ : ∃ x, cP f b_ (vs ++ [s]) (o3 ++ [insI 39 0]) = x := ⟨_, rfl⟩
            obtain ⟨n5, hn5⟩ : ∃ x, o5.length = x := ⟨_, rfl⟩
            obtain ⟨nv, hnv⟩ : ∃ x, vs.length = x := ⟨_, rfl⟩
            have l5 := cP_len f b_ (vs ++ [s]) (o3 ++ [insI 39 0])
            have g5 := cP_ge f b_ (vs ++ [s]) (o3 ++ [insI 39 0])
            rw [ho5, List.length_append, hn3, hn5] at l5 g5
            simp only [List.length_cons, List.length_nil] at l5 g5
            have hcp : cP (f + 1) (.node 31 s n [a, b_]) vs out = endI (o5 ++ [insI 40 (n3 : Int)]) n3 := by
              rw [e3, ← ho5, ← ho3, ← HO2.out, ← HO1.out]
              simp only [cP]
              rw [if_neg (by decide), if_pos (by decide)]
              rfl
            have HCP := zH hcp
            have HO3 := zH ho3
            have HN3 := zH hn3
            have HO5 := zH ho5
            have HN5 := zH hn5
            have HNV := zH hnv
            have HVL : Hid ((vs ++ [s]).length = nv + 1) := zH (by rw [List.length_append, hnv]; rfl)
            have HLV : Hid (nv ≤ 1000) := zH (by have := HH.out.vlen; omega)
            have L2 : Hid (o2.length + 1 ≤ 10000) := zH (by omega)
            have L3 : Hid (o3.length + 1 + 4 * b_.size ≤ 10000 ∧ o3.length = n3) := zH (by omega)
            have HL5 : Hid (n5 ≤ 100000) := zH (by omega)
            have L5 : Hid (o5.length + 1 ≤ 10000 ∧ n3 < o5.length + 1) := zH (by omega)
            have HVB2 : Hid (∀ v ∈ vs ++ [s], Bytes v) := zH (fun v hv => by
              rcases List.mem_append.1 hv with h | h
              · exact HVB.out v h
              · rw [List.mem_singleton.1 h]; exact HND.out.2.1)
            obtain ⟨jS, hi, hz, hsz, hby⟩ := info_parts info_Str
            have IS := zH (And.intro hi (And.intro hz (And.intro hsz hby)))
            clear hcp ho3 hn3 e3 ho5 hn5 hnv l2 l5 g5 lA hi hz hsz hby
            have tokwA : True := trivial
            have tokwP : True := trivial
            have tokwH : True := trivial
            go_upto_region 41 with (first
                | (have _t := tokwA; go_at_call 26; go_must (refine (IH.out a qa vs wc _ _ o1 Pwc.out).mono ?_); clear tokwA _t; rintro e wA ⟨rfl, ovwA, vvwA, hk1, hk2⟩; go_must (have MwA := zH hk1); go_must (have KwA := zH (Kwc.out.trans hk2)); go_must (have BwA := zH (hk2.typ _ _ _ (by decide) (by decide) (by decide) Bwc.out)); rw [HO2.out] at MwA; have n0wA : (wA).cell? ⟨q, 0, none⟩ = some (.int .i64 (31 : Int)) := BwA.out.cell rfl; have n3wA : (wA).cell? ⟨q, 3, none⟩ = some (.slice (some ⟨kb, ko, none⟩) [a, b_].length kc) := BwA.out.cell rfl; clear hk1 hk2)
                | (have _t := tokwP; go_at_call 44; go_must (refine (put_any 35 MwA.out (by omega) (by omega) (by have := L2.out; simp [endI_len]; try omega)).mono ?_); clear tokwP _t; rintro e wP ⟨rfl, ovwP, hk1, hk2⟩; go_must (have MwP := zH hk1); go_must (have KwP := zH (KwA.out.trans hk2)); go_must (have BwP := zH (hk2.typ _ _ _ (by decide) (by decide) (by decide) BwA.out)); rw [HO3.out] at MwP; obtain ⟨oaP, ocP, rfl⟩ := MwP.out.own.form; rw [HN3.out] at MwP; have dP : wP.cell? ⟨g, 1, none⟩ = some (.slice oaP n3 ocP) := MwP.out.blk.cell rfl; clear hk1 hk2)
                | (have _t := tokwH; go_at_call 43; go_must (refine (hole_any 39 MwP.out (by omega) (by omega) (by have := L3.out; simp [endI_len]; try omega)).mono ?_); clear tokwH _t; rintro e wH ⟨H1, H2, rfl, ⟨ovwH, hk1, hk2⟩, hb1, hb2⟩; go_must (have MwH := zH hk1); go_must (have KwH := zH (KwP.out.trans hk2)); go_must (have BwH := zH (hk2.typ _ _ _ (by decide) (by decide) (by decide) BwP.out)); go_must (have HwH := zH (And.intro hb1 hb2)); rw [HN3.out] at HwH; obtain ⟨vaH, vcH, rfl⟩ := MwH.out.vown.form; rw [HNV.out] at MwH; have dH : wH.cell? ⟨g, 2, none⟩ = some (.slice vaH nv vcH) := MwH.out.blk.cell rfl; have dfH := MwH.out.blk.frozen 2; have lgH : g < wH.heap.size := MwH.out.lt; have n1H : wH.cell? ⟨q, 1, none⟩ = some (.string (txt s)) := BwH.out.cell rfl; have lqH : q < wH.heap.size := BwH.out.lt; clear hk1 hk2 hb1 hb2; unfold holeV)
                | fail)
            go_cut [] from 199 to 209 (fun wx => ∃ vv', Hid (MkSt wx g (.slice (some ⟨b, off, none⟩) nl lc) ovwH vv' (o3 ++ [insI 39 0]) (vs ++ [s]) ∧ KT wH wx g))
            case first =>
              go_region_law (first
                | (skip
                   go_must (refine step_append_list rfl (.tmp 203) (.tmp 206) _ (by rfl) (g + 1) (wH.heap.size + 1) 9 jS _ 1 16 Tryz.underlying77 IS.out.1 IS.out.2.1 IS.out.2.2.1 IS.out.2.2.2 rfl (by omega) (R := IsTx) (l := vs) (m := [s]) (.slice vaH nv vcH) (by rfl) (by exact ((MwH.out.alloc (.cells #[.string (txt s)] 9)).drew).vown) (some ⟨wH.heap.size, 0, none⟩) 1 1 (by rfl) (by exact SlR.new1 (w := wH) (e := 9) (g := wH.heap.size) rfl (x := [.string (txt s)]) rfl (R := IsTx) (y := s) rfl) (nv + 1) (by rw [HNV.out]) IsTx.one (by have := HLV.out; have := HNV.out; unfold maxLen; omega) (by have := HLV.out; have := HNV.out; omega) (by have := MwH.out.lt; simp; omega) ?_)
                   intro a5 cc5 w5 hown hgr
                   go_must (have K5 := MkSt.vpush ((MwH.out.alloc (.cells #[.string (txt s)] 9)).drew) hown hgr)
                   go_must (have b5 := ((MwH.out.alloc (.cells #[.string (txt s)] 9)).drew).blk.grown hgr (fun e => by have := (MwH.out.vown.block g e.symm).1; omega))
                   have m5 : w5.cell? ⟨g, 2, none⟩ = some (.slice vaH nv vcH) := b5.cell rfl
                   have mf5 := b5.frozen 2
                   have HK := zH K5
                   clear K5 b5 hown hgr)
                | fail)
              all_goals
                go_wp2_with fail
                go_meet
                exact ⟨_, zH ⟨HK.out.1, (KT.of_below (zB.alloc zL _).drew (Nat.le_of_lt lgH)).trans HK.out.2⟩⟩
            case rest =>
              obtain ⟨vvV, hkv⟩ := hcut
              rename World => wV
              have MwV := zH hkv.out.1
              have KwV := zH (KwH.out.trans hkv.out.2)
              have BwV := zH (hkv.out.2.typ _ _ _ (by decide) (by decide) (by decide) BwH.out)
              have HwV := zH (And.intro (hkv.out.2.typ _ _ _ (by decide) (by decide) (by decide) HwH.out.1) (hkv.out.2.typ _ _ _ (by decide) (by decide) (by decide) HwH.out.2))
              have n0wV : (wV).cell? ⟨q, 0, none⟩ = some (.int .i64 (31 : Int)) := BwV.out.cell rfl
              have n3wV : (wV).cell? ⟨q, 3, none⟩ = some (.slice (some ⟨kb, ko, none⟩) [a, b_].length kc) := BwV.out.cell rfl
              go_must (have xwV : (wV).cell? ⟨kb, ko + 1, none⟩ = _ := CB_.out wV (HH.out.hw.trans (KwV.out.bel.mono HH.out.hg)))
              have PwV := zH (NPre.kid (j := 1) HH.out rfl SB_.out KwV.out MwV.out HVB2.out (put_ok o3 (by decide)) (by have := L3.out; simp [endI_len]; try omega) (by simp))
              clear hkv MwH KwH BwH HwH dH dfH lgH n1H lqH
              have tokwB : True := trivial
              go_upto_region 43 with (first
                | (have _t := tokwB; go_at_call 26; go_must (refine (IH.out b_ qb_ (vs ++ [s]) wV _ _ (o3 ++ [insI 39 0]) PwV.out).mono ?_); clear tokwB _t; rintro e wB ⟨rfl, ovwB, vvwB, hk1, hk2⟩; go_must (have MwB := zH hk1); go_must (have KwB := zH (KwV.out.trans hk2)); go_must (have BwB := zH (hk2.typ _ _ _ (by decide) (by decide) (by decide) BwV.out)); rw [HO5.out] at MwB; go_must (have HwB := zH (And.intro (hk2.typ _ _ _ (by decide) (by decide) (by decide) HwV.out.1) (hk2.typ _ _ _ (by decide) (by decide) (by decide) HwV.out.2))); obtain ⟨oaB, ocB, rfl⟩ := MwB.out.own.form; rw [HN5.out] at MwB; obtain ⟨vaB, vcB, rfl, hc1, hc2⟩ := (MwB.out.vown.read (by decide)).form; rw [HVL.out] at MwB hc1; have dB : wB.cell? ⟨g, 2, none⟩ = some (.slice vaB (nv + 1) vcB) := MwB.out.blk.cell rfl; have dfB := MwB.out.blk.frozen 2; have lgB : g < wB.heap.size := MwB.out.lt; clear hk1 hk2)
                | fail)
              have e1 : ((nv + 1 : Nat) : Int) - 1 = (nv : Int) := by omega
              have hc0 : (nv : Int) ≤ (vcB : Int) := by omega
              have hc3 : (0 : Int) ≤ (nv : Int) := Int.natCast_nonneg _
              have wr2 : IntKind.i64.wrap (nv : Int) = (nv : Int) := by rw [IntKind.wrap_i64]; have := HLV.out; omega
              have hvp := MwB.out.vpop
              rw [List.dropLast_concat] at hvp
              have HVP := zH hvp
              clear hvp
              go_cut [] from 216 to 229 (fun wx => Hid (MkSt wx g (.slice (some ⟨b, off, none⟩) nl lc) (.slice oaB n5 ocB) (.slice vaB nv vcB) o5 vs ∧ KT wB wx g))
              case first =>
                go_region
                all_goals
                  go_wp2_with fail
                  go_meet
                  first
                    | exact zH ⟨HVP.out.1.drew, HVP.out.2.trans ⟨zB.drew, fun _ _ _ _ _ _ h => h⟩⟩
                    | exact zH ⟨HVP.out.1, HVP.out.2⟩
              case rest =>
                rename World => wD
                have MwD := zH hcut.out.1
                have KwD := zH (KwB.out.trans hcut.out.2)
                have BwD := zH (hcut.out.2.typ _ _ _ (by decide) (by decide) (by decide) BwB.out)
                have HwD := zH (And.intro (hcut.out.2.typ _ _ _ (by decide) (by decide) (by decide) HwB.out.1) (hcut.out.2.typ _ _ _ (by decide) (by decide) (by decide) HwB.out.2))
                have dD : wD.cell? ⟨g, 1, none⟩ = some (.slice oaB n5 ocB) := MwD.out.blk.cell rfl
                have dfD := MwD.out.blk.frozen 1
                have lgD : g < wD.heap.size := MwD.out.lt
                clear hcut MwB KwB BwB HwB dB dfB lgB HVP
                have tokwT : True := trivial
                have tokwF : True := trivial
                go_wp2_with (first
                  | (at_builtin
                     go_must (refine wpList_append_list rfl (.tmp 234) (.tmp 237) _ (by rfl) (g + 1) (wD.heap.size + 1) 42 jI _ 4 40 Tryz.underlying22 I.out.1 I.out.2.1 I.out.2.2.1 I.out.2.2.2 rfl (by omega) (R := Ins.Is) (l := o5) (m := [⟨40, (n3 : Int), 0, ⟨#[]⟩⟩]) (.slice oaB n5 ocB) (by rfl) (by exact (MwD.out.alloc (.cells #[.int .i64 40, .int .i64 (n3 : Int), .int .i64 0, .string ⟨#[]⟩] 42)).own) (some ⟨wD.heap.size, 0, none⟩) 1 1 (by rfl) (SlR.new1 (w := wD) (e := 42) (g := wD.heap.size) rfl (x := [.int .i64 40, .int .i64 (n3 : Int), .int .i64 0, .string ⟨#[]⟩]) rfl (R := Ins.Is) (y := ⟨40, (n3 : Int), 0, ⟨#[]⟩⟩) ⟨rfl, ins_ok (by omega) (by omega) (by have := L3.out; omega) (by have := L3.out; omega) (by omega) (by omega) nil_size⟩) (n5 + 1) (by rw [HN5.out]) Ins.Is.one (by have := HL5.out; have := HN5.out; unfold maxLen; omega) (by have := HL5.out; have := HN5.out; omega) (by have := MwD.out.lt; simp; omega) ?_)
                     intro a6 cc6 w6 hown hgr
                     go_must (have K6 := MkSt.push (MwD.out.alloc (.cells #[.int .i64 40, .int .i64 (n3 : Int), .int .i64 0, .string ⟨#[]⟩] 42)) hown hgr)
                     go_must (have b6 := (MwD.out.alloc (.cells #[.int .i64 40, .int .i64 (n3 : Int), .int .i64 0, .string ⟨#[]⟩] 42)).blk.grown hgr (fun e => by have := (MwD.out.own.block g e.symm).1; omega))
                     have m6 : w6.cell? ⟨g, 1, none⟩ = some (.slice oaB n5 ocB) := b6.cell rfl
                     have mf6 := b6.frozen 1
                     have HK6 := zH K6
                     clear K6 b6 hown hgr
                     go_must (have MwT := zH HK6.out.1)
                     go_must (have KTT := (KT.of_below ((Below.refl wD.heap.size wD).alloc zL (.cells #[.int .i64 40, .int .i64 (n3 : Int), .int .i64 0, .string ⟨#[]⟩] 42)) (Nat.le_of_lt lgD)).trans HK6.out.2)
                     go_must (have KwT := zH (KwD.out.trans KTT))
                     go_must (have HwT := zH (And.intro (KTT.typ _ _ _ (by decide) (by decide) (by decide) HwD.out.1) (KTT.typ _ _ _ (by decide) (by decide) (by decide) HwD.out.2)))
                     go_must (have BwT := zH (KTT.typ _ _ _ (by decide) (by decide) (by decide) BwD.out))
                     clear KTT tokwT)
                  | (have _t := tokwF; go_at_call 61; go_must (refine (fill_any (i := n3) MwT.out HwT.out.1 HwT.out.2 (by have := L5.out; simp [endI_len]; try omega) (by have := L5.out; simp [endI_len]; try omega)).mono ?_); clear tokwF _t; rintro e wF ⟨rfl, hk1, hk2⟩; go_must (have MwF := zH hk1); go_must (have KwF := zH (KwT.out.trans hk2)); go_must (have BwF := zH (hk2.typ _ _ _ (by decide) (by decide) (by decide) BwT.out)); clear hk1 hk2)
                  | fail)
                go_end0
                rw [HCP.out]
                exact nodeK_of MwF.out KwF.out
          · obtain ⟨o3, ho3⟩ : ∃ x, o2 ++ [insI 36 0] = x := ⟨_, rfl⟩
            obtain ⟨n3, hn3⟩ : ∃ x, o3.length = x := ⟨_, rfl⟩
            have e3 : n3 = o2.length + 1 := by rw [← hn3, ← ho3]; simp
            obtain ⟨o5, ho5⟩ : ∃ x, cP f b_ (vs ++ [s]) (o3 ++ [insI 39 0]) = x := ⟨_, rfl⟩
            obtain ⟨n5, hn5⟩ : ∃ x, o5.length = x := ⟨_, rfl⟩
            obtain ⟨nv, hnv⟩ : ∃ x, vs.length = x := ⟨_, rfl⟩
            have l5 := cP_len f b_ (vs ++ [s]) (o3 ++ [insI 39 0])
            have g5 := cP_ge f b_ (vs ++ [s]) (o3 ++ [insI 39 0])
            rw [ho5, List.length_append, hn3, hn5] at l5 g5
            simp only [List.length_cons, List.length_nil] at l5 g5
            have hcp : cP (f + 1) (.node 32 s n [a, b_]) vs out = endI (o5 ++ [insI 40 (n3 : Int)]) n3 := by
              rw [e3, ← ho5, ← ho3, ← HO2.out, ← HO1.out]
              simp only [cP]
              rw [if_neg (by decide), if_pos (by decide)]
              rfl
            have HCP := zH hcp
            have HO3 := zH ho3
            have HN3 := zH hn3
            have HO5 := zH ho5
            have HN5 := zH hn5
            have HNV := zH hnv
            have HVL : Hid ((vs ++ [s]).length = nv + 1) := zH (by rw [List.length_append, hnv]; rfl)
            have HLV : Hid (nv ≤ 1000) := zH (by have := HH.out.vlen; omega)
            have L2 : Hid (o2.length + 1 ≤ 10000) := zH (by omega)
            have L3 : Hid (o3.length + 1 + 4 * b_.size ≤ 10000 ∧ o3.length = n3) := zH (by omega)
            have HL5 : Hid (n5 ≤ 100000) := zH (by omega)
            have L5 : Hid (o5.length + 1 ≤ 10000 ∧ n3 < o5.length + 1) := zH (by omega)
            have HVB2 : Hid (∀ v ∈ vs ++ [s], Bytes v) := zH (fun v hv => by
              rcases List.mem_append.1 hv with h | h
              · exact HVB.out v h
              · rw [List.mem_singleton.1 h]; exact HND.out.2.1)
            obtain ⟨jS, hi, hz, hsz, hby⟩ := info_parts info_Str
            have IS := zH (And.intro hi (And.intro hz (And.intro hsz hby)))
            clear hcp ho3 hn3 e3 ho5 hn5 hnv l2 l5 g5 lA hi hz hsz hby
            have tokwA : True := trivial
            have tokwP : True := trivial
            have tokwH : True := trivial
            go_upto_region 41 with (first
                | (have _t := tokwA; go_at_call 26; go_must (refine (IH.out a qa vs wc _ _ o1 Pwc.out).mono ?_); clear tokwA _t; rintro e wA ⟨rfl, ovwA, vvwA, hk1, hk2⟩; go_must (have MwA := zH hk1); go_must (have KwA := zH (Kwc.out.trans hk2)); go_must (have BwA := zH (hk2.typ _ _ _ (by decide) (by decide) (by decide) Bwc.out)); rw [HO2.out] at MwA; have n0wA : (wA).cell? ⟨q, 0, none⟩ = some (.int .i64 (32 : Int)) := BwA.out.cell rfl; have n3wA : (wA).cell? ⟨q, 3, none⟩ = some (.slice (some ⟨kb, ko, none⟩) [a, b_].length kc) := BwA.out.cell rfl; clear hk1 hk2)
                | (have _t := tokwP; go_at_call 44; go_must (refine (put_any 36 MwA.out (by omega) (by omega) (by have := L2.out; simp [endI_len]; try omega)).mono ?_); clear tokwP _t; rintro e wP ⟨rfl, ovwP, hk1, hk2⟩; go_must (have MwP := zH hk1); go_must (have KwP := zH (KwA.out.trans hk2)); go_must (have BwP := zH (hk2.typ _ _ _ (by decide) (by decide) (by decide) BwA.out)); rw [HO3.out] at MwP; obtain ⟨oaP, ocP, rfl⟩ := MwP.out.own.form; rw [HN3.out] at MwP; have dP : wP.cell? ⟨g, 1, none⟩ = some (.slice oaP n3 ocP) := MwP.out.blk.cell rfl; clear hk1 hk2)
                | (have _t := tokwH; go_at_call 43; go_must (refine (hole_any 39 MwP.out (by omega) (by omega) (by have := L3.out; simp [endI_len]; try omega)).mono ?_); clear tokwH _t; rintro e wH ⟨H1, H2, rfl, ⟨ovwH, hk1, hk2⟩, hb1, hb2⟩; go_must (have MwH := zH hk1); go_must (have KwH := zH (KwP.out.trans hk2)); go_must (have BwH := zH (hk2.typ _ _ _ (by decide) (by decide) (by decide) BwP.out)); go_must (have HwH := zH (And.intro hb1 hb2)); rw [HN3.out] at HwH; obtain ⟨vaH, vcH, rfl⟩ := MwH.out.vown.form; rw [HNV.out] at MwH; have dH : wH.cell? ⟨g, 2, none⟩ = some (.slice vaH nv vcH) := MwH.out.blk.cell rfl; have dfH := MwH.out.blk.frozen 2; have lgH : g < wH.heap.size := MwH.out.lt; have n1H : wH.cell? ⟨q, 1, none⟩ = some (.string (txt s)) := BwH.out.cell rfl; have lqH : q < wH.heap.size := BwH.out.lt; clear hk1 hk2 hb1 hb2; unfold holeV)
                | fail)
            go_cut [] from 199 to 209 (fun wx => ∃ vv', Hid (MkSt wx g (.slice (some ⟨b, off, none⟩) nl lc) ovwH vv' (o3 ++ [insI 39 0]) (vs ++ [s]) ∧ KT wH wx g))
            case first =>
              go_region_law (first
                | (skip
                   go_must (refine step_append_list rfl (.tmp 203) (.tmp 206) _ (by rfl) (g + 1) (wH.heap.size + 1) 9 jS _ 1 16 Tryz.underlying77 IS.out.1 IS.out.2.1 IS.out.2.2.1 IS.out.2.2.2 rfl (by omega) (R := IsTx) (l := vs) (m := [s]) (.slice vaH nv vcH) (by rfl) (by exact ((MwH.out.alloc (.cells #[.string (txt s)] 9)).drew).vown) (some ⟨wH.heap.size, 0, none⟩) 1 1 (by rfl) (by exact SlR.new1 (w := wH) (e := 9) (g := wH.heap.size) rfl (x := [.string (txt s)]) rfl (R := IsTx) (y := s) rfl) (nv + 1) (by rw [HNV.out]) IsTx.one (by have := HLV.out; have := HNV.out; unfold maxLen; omega) (by have := HLV.out; have := HNV.out; omega) (by have := MwH.out.lt; simp; omega) ?_)
                   intro a5 cc5 w5 hown hgr
                   go_must (have K5 := MkSt.vpush ((MwH.out.alloc (.cells #[.string (txt s)] 9)).drew) hown hgr)
                   go_must (have b5 := ((MwH.out.alloc (.cells #[.string (txt s)] 9)).drew).blk.grown hgr (fun e => by have := (MwH.out.vown.block g e.symm).1; omega))
                   have m5 : w5.cell? ⟨g, 2, none⟩ = some (.slice vaH nv vcH) := b5.cell rfl
                   have mf5 := b5.frozen 2
                   have HK := zH K5
                   clear K5 b5 hown hgr)
                | fail)
              all_goals
                go_wp2_with fail
                go_meet
                exact ⟨_, zH ⟨HK.out.1, (KT.of_below (zB.alloc zL _).drew (Nat.le_of_lt lgH)).trans HK.out.2⟩⟩
            case rest =>
              obtain ⟨vvV, hkv⟩ := hcut
              rename World => wV
              have MwV := zH hkv.out.1
              have KwV := zH (KwH.out.trans hkv.out.2)
              have BwV := zH (hkv.out.2.typ _ _ _ (by decide) (by decide) (by decide) BwH.out)
              have HwV := zH (And.intro (hkv.out.2.typ _ _ _ (by decide) (by decide) (by decide) HwH.out.1) (hkv.out.2.typ _ _ _ (by decide) (by decide) (by decide) HwH.out.2))
              have n0wV : (wV).cell? ⟨q, 0, none⟩ = some (.int .i64 (32 : Int)) := BwV.out.cell rfl
              have n3wV : (wV).cell? ⟨q, 3, none⟩ = some (.slice (some ⟨kb, ko, none⟩) [a, b_].length kc) := BwV.out.cell rfl
              go_must (have xwV : (wV).cell? ⟨kb, ko + 1, none⟩ = _ := CB_.out wV (HH.out.hw.trans (KwV.out.bel.mono HH.out.hg)))
              have PwV := zH (NPre.kid (j := 1) HH.out rfl SB_.out KwV.out MwV.out HVB2.out (put_ok o3 (by decide)) (by have := L3.out; simp [endI_len]; try omega) (by simp))
              clear hkv MwH KwH BwH HwH dH dfH lgH n1H lqH
              have tokwB : True := trivial
              go_upto_region 43 with (first
                | (have _t := tokwB; go_at_call 26; go_must (refine (IH.out b_ qb_ (vs ++ [s]) wV _ _ (o3 ++ [insI 39 0]) PwV.out).mono ?_); clear tokwB _t; rintro e wB ⟨rfl, ovwB, vvwB, hk1, hk2⟩; go_must (have MwB := zH hk1); go_must (have KwB := zH (KwV.out.trans hk2)); go_must (have BwB := zH (hk2.typ _ _ _ (by decide) (by decide) (by decide) BwV.out)); rw [HO5.out] at MwB; go_must (have HwB := zH (And.intro (hk2.typ _ _ _ (by decide) (by decide) (by decide) HwV.out.1) (hk2.typ _ _ _ (by decide) (by decide) (by decide) HwV.out.2))); obtain ⟨oaB, ocB, rfl⟩ := MwB.out.own.form; rw [HN5.out] at MwB; obtain ⟨vaB, vcB, rfl, hc1, hc2⟩ := (MwB.out.vown.read (by decide)).form; rw [HVL.out] at MwB hc1; have dB : wB.cell? ⟨g, 2, none⟩ = some (.slice vaB (nv + 1) vcB) := MwB.out.blk.cell rfl; have dfB := MwB.out.blk.frozen 2; have lgB : g < wB.heap.size := MwB.out.lt; clear hk1 hk2)
                | fail)
              have e1 : ((nv + 1 : Nat) : Int) - 1 = (nv : Int) := by omega
              have hc0 : (nv : Int) ≤ (vcB : Int) := by omega
              have hc3 : (0 : Int) ≤ (nv : Int) := Int.natCast_nonneg _
              have wr2 : IntKind.i64.wrap (nv : Int) = (nv : Int) := by rw [IntKind.wrap_i64]; have := HLV.out; omega
              have hvp := MwB.out.vpop
              rw [List.dropLast_concat] at hvp
              have HVP := zH hvp
              clear hvp
              go_cut [] from 216 to 229 (fun wx => Hid (MkSt wx g (.slice (some ⟨b, off, none⟩) nl lc) (.slice oaB n5 ocB) (.slice vaB nv vcB) o5 vs ∧ KT wB wx g))
              case first =>
                go_region
                all_goals
                  go_wp2_with fail
                  go_meet
                  first
                    | exact zH ⟨HVP.out.1.drew, HVP.out.2.trans ⟨zB.drew, fun _ _ _ _ _ _ h => h⟩⟩
                    | exact zH ⟨HVP.out.1, HVP.out.2⟩
              case rest =>
                rename World => wD
                have MwD := zH hcut.out.1
                have KwD := zH (KwB.out.trans hcut.out.2)
                have BwD := zH (hcut.out.2.typ _ _ _ (by decide) (by decide) (by decide) BwB.out)
                have HwD := zH (And.intro (hcut.out.2.typ _ _ _ (by decide) (by decide) (by decide) HwB.out.1) (hcut.out.2.typ _ _ _ (by decide) (by decide) (by decide) HwB.out.2))
                have dD : wD.cell? ⟨g, 1, none⟩ = some (.slice oaB n5 ocB) := MwD.out.blk.cell rfl
                have dfD := MwD.out.blk.frozen 1
                have lgD : g < wD.heap.size := MwD.out.lt
                clear hcut MwB KwB BwB HwB dB dfB lgB HVP
                have tokwT : True := trivial
                have tokwF : True := trivial
                go_wp2_with (first
                  | (at_builtin
                     go_must (refine wpList_append_list rfl (.tmp 234) (.tmp 237) _ (by rfl) (g + 1) (wD.heap.size + 1) 42 jI _ 4 40 Tryz.underlying22 I.out.1 I.out.2.1 I.out.2.2.1 I.out.2.2.2 rfl (by omega) (R := Ins.Is) (l := o5) (m := [⟨40, (n3 : Int), 0, ⟨#[]⟩⟩]) (.slice oaB n5 ocB) (by rfl) (by exact (MwD.out.alloc (.cells #[.int .i64 40, .int .i64 (n3 : Int), .int .i64 0, .string ⟨#[]⟩] 42)).own) (some ⟨wD.heap.size, 0, none⟩) 1 1 (by rfl) (SlR.new1 (w := wD) (e := 42) (g := wD.heap.size) rfl (x := [.int .i64 40, .int .i64 (n3 : Int), .int .i64 0, .string ⟨#[]⟩]) rfl (R := Ins.Is) (y := ⟨40, (n3 : Int), 0, ⟨#[]⟩⟩) ⟨rfl, ins_ok (by omega) (by omega) (by have := L3.out; omega) (by have := L3.out; omega) (by omega) (by omega) nil_size⟩) (n5 + 1) (by rw [HN5.out]) Ins.Is.one (by have := HL5.out; have := HN5.out; unfold maxLen; omega) (by have := HL5.out; have := HN5.out; omega) (by have := MwD.out.lt; simp; omega) ?_)
                     intro a6 cc6 w6 hown hgr
                     go_must (have K6 := MkSt.push (MwD.out.alloc (.cells #[.int .i64 40, .int .i64 (n3 : Int), .int .i64 0, .string ⟨#[]⟩] 42)) hown hgr)
                     go_must (have b6 := (MwD.out.alloc (.cells #[.int .i64 40, .int .i64 (n3 : Int), .int .i64 0, .string ⟨#[]⟩] 42)).blk.grown hgr (fun e => by have := (MwD.out.own.block g e.symm).1; omega))
                     have m6 : w6.cell? ⟨g, 1, none⟩ = some (.slice oaB n5 ocB) := b6.cell rfl
                     have mf6 := b6.frozen 1
                     have HK6 := zH K6
                     clear K6 b6 hown hgr
                     go_must (have MwT := zH HK6.out.1)
                     go_must (have KTT := (KT.of_below ((Below.refl wD.heap.size wD).alloc zL (.cells #[.int .i64 40, .int .i64 (n3 : Int), .int .i64 0, .string ⟨#[]⟩] 42)) (Nat.le_of_lt lgD)).trans HK6.out.2)
                     go_must (have KwT := zH (KwD.out.trans KTT))
                     go_must (have HwT := zH (And.intro (KTT.typ _ _ _ (by decide) (by decide) (by decide) HwD.out.1) (KTT.typ _ _ _ (by decide) (by decide) (by decide) HwD.out.2)))
                     go_must (have BwT := zH (KTT.typ _ _ _ (by decide) (by decide) (by decide) BwD.out))
                     clear KTT tokwT)
                  | (have _t := tokwF; go_at_call 61; go_must (refine (fill_any (i := n3) MwT.out HwT.out.1 HwT.out.2 (by have := L5.out; simp [endI_len]; try omega) (by have := L5.out; simp [endI_len]; try omega)).mono ?_); clear tokwF _t; rintro e wF ⟨rfl, hk1, hk2⟩; go_must (have MwF := zH hk1); go_must (have KwF := zH (KwT.out.trans hk2)); go_must (have BwF := zH (hk2.typ _ _ _ (by decide) (by decide) (by decide) BwT.out)); clear hk1 hk2)
                  | fail)
                go_end0
                rw [HCP.out]
                exact nodeK_of MwF.out KwF.out
          · obtain ⟨o3, ho3⟩ : ∃ x, o2 ++ [insI 37 0] = x := ⟨_, rfl⟩
            obtain ⟨n3, hn3⟩ : ∃ x, o3.length = x := ⟨_, rfl⟩
            have e3 : n3 = o2.length + 1 := by rw [← hn3, ← ho3]; simp
            obtain ⟨o5, ho5⟩ : ∃ x, cP f b_ (vs ++ [s]) (o3 ++ [insI 39 0]) = x := ⟨_, rfl⟩
            obtain ⟨n5, hn5⟩ : ∃ x, o5.length = x := ⟨_, rfl⟩
            obtain ⟨nv, hnv⟩ : ∃ x, vs.length = x := ⟨_, rfl⟩
            have l5 := cP_len f b_ (vs ++ [s]) (o3 ++ [insI 39 0])
            have g5 := cP_ge f b_ (vs ++ [s]) (o3 ++ [insI 39 0])
            rw [ho5, List.length_append, hn3, hn5] at l5 g5
            simp only [List.length_cons, List.length_nil] at l5 g5
            have hcp : cP (f + 1) (.node 33 s n [a, b_]) vs out = endI (o5 ++ [insI 40 (n3 : Int)]) n3 := by
              rw [e3, ← ho5, ← ho3, ← HO2.out, ← HO1.out]
              simp only [cP]
              rw [if_neg (by decide), if_pos (by decide)]
              rfl
            have HCP := zH hcp
            have HO3 := zH ho3
            have HN3 := zH hn3
            have HO5 := zH ho5
            have HN5 := zH hn5
            have HNV := zH hnv
            have HVL : Hid ((vs ++ [s]).length = nv + 1) := zH (by rw [List.length_append, hnv]; rfl)
            have HLV : Hid (nv ≤ 1000) := zH (by have := HH.out.vlen; omega)
            have L2 : Hid (o2.length + 1 ≤ 10000) := zH (by omega)
            have L3 : Hid (o3.length + 1 + 4 * b_.size ≤ 10000 ∧ o3.length = n3) := zH (by omega)
            have HL5 : Hid (n5 ≤ 100000) := zH (by omega)
            have L5 : Hid (o5.length + 1 ≤ 10000 ∧ n3 < o5.length + 1) := zH (by omega)
            have HVB2 : Hid (∀ v ∈ vs ++ [s], Bytes v) := zH (fun v hv => by
              rcases List.mem_append.1 hv with h | h
              · exact HVB.out v h
              · rw [List.mem_singleton.1 h]; exact HND.out.2.1)
            obtain ⟨jS, hi, hz, hsz, hby⟩ := info_parts info_Str
            have IS := zH (And.intro hi (And.intro hz (And.intro hsz hby)))
            clear hcp ho3 hn3 e3 ho5 hn5 hnv l2 l5 g5 lA hi hz hsz hby
            have tokwA : True := trivial
            have tokwP : True := trivial
            have tokwH : True := trivial
            go_upto_region 41 with (first
                | (have _t := tokwA; go_at_call 26; go_must (refine (IH.out a qa vs wc _ _ o1 Pwc.out).mono ?_); clear tokwA _t; rintro e wA ⟨rfl, ovwA, vvwA, hk1, hk2⟩; go_must (have MwA := zH hk1); go_must (have KwA := zH (Kwc.out.trans hk2)); go_must (have BwA := zH (hk2.typ _ _ _ (by decide) (by decide) (by decide) Bwc.out)); rw [HO2.out] at MwA; have n0wA : (wA).cell? ⟨q, 0, none⟩ = some (.int .i64 (33 : Int)) := BwA.out.cell rfl; have n3wA : (wA).cell? ⟨q, 3, none⟩ = some (.slice (some ⟨kb, ko, none⟩) [a, b_].length kc) := BwA.out.cell rfl; clear hk1 hk2)
                | (have _t := tokwP; go_at_call 44; go_must (refine (put_any 37 MwA.out (by omega) (by omega) (by have := L2.out; simp [endI_len]; try omega)).mono ?_); clear tokwP _t; rintro e wP ⟨rfl, ovwP, hk1, hk2⟩; go_must (have MwP := zH hk1); go_must (have KwP := zH (KwA.out.trans hk2)); go_must (have BwP := zH (hk2.typ _ _ _ (by decide) (by decide) (by decide) BwA.out)); rw [HO3.out] at MwP; obtain ⟨oaP, ocP, rfl⟩ := MwP.out.own.form; rw [HN3.out] at MwP; have dP : wP.cell? ⟨g, 1, none⟩ = some (.slice oaP n3 ocP) := MwP.out.blk.cell rfl; clear hk1 hk2)
                | (have _t := tokwH; go_at_call 43; go_must (refine (hole_any 39 MwP.out (by omega) (by omega) (by have := L3.out; simp [endI_len]; try omega)).mono ?_); clear tokwH _t; rintro e wH ⟨H1, H2, rfl, ⟨ovwH, hk1, hk2⟩, hb1, hb2⟩; go_must (have MwH := zH hk1); go_must (have KwH := zH (KwP.out.trans hk2)); go_must (have BwH := zH (hk2.typ _ _ _ (by decide) (by decide) (by decide) BwP.out)); go_must (have HwH := zH (And.intro hb1 hb2)); rw [HN3.out] at HwH; obtain ⟨vaH, vcH, rfl⟩ := MwH.out.vown.form; rw [HNV.out] at MwH; have dH : wH.cell? ⟨g, 2, none⟩ = some (.slice vaH nv vcH) := MwH.out.blk.cell rfl; have dfH := MwH.out.blk.frozen 2; have lgH : g < wH.heap.size := MwH.out.lt; have n1H : wH.cell? ⟨q, 1, none⟩ = some (.string (txt s)) := BwH.out.cell rfl; have lqH : q < wH.heap.size := BwH.out.lt; clear hk1 hk2 hb1 hb2; unfold holeV)
                | fail)
            go_cut [] from 199 to 209 (fun wx => ∃ vv', Hid (MkSt wx g (.slice (some ⟨b, off, none⟩) nl lc) ovwH vv' (o3 ++ [insI 39 0]) (vs ++ [s]) ∧ KT wH wx g))
            case first =>
              go_region_law (first
                | (skip
                   go_must (refine step_append_list rfl (.tmp 203) (.tmp 206) _ (by rfl) (g + 1) (wH.heap.size + 1) 9 jS _ 1 16 Tryz.underlying77 IS.out.1 IS.out.2.1 IS.out.2.2.1 IS.out.2.2.2 rfl (by omega) (R := IsTx) (l := vs) (m := [s]) (.slice vaH nv vcH) (by rfl) (by exact ((MwH.out.alloc (.cells #[.string (txt s)] 9)).drew).vown) (some ⟨wH.heap.size, 0, none⟩) 1 1 (by rfl) (by exact SlR.new1 (w := wH) (e := 9) (g := wH.heap.size) rfl (x := [.string (txt s)]) rfl (R := IsTx) (y := s) rfl) (nv + 1) (by rw [HNV.out]) IsTx.one (by have := HLV.out; have := HNV.out; unfold maxLen; omega) (by have := HLV.out; have := HNV.out; omega) (by have := MwH.out.lt; simp; omega) ?_)
                   intro a5 cc5 w5 hown hgr
                   go_must (have K5 := MkSt.vpush ((MwH.out.alloc (.cells #[.string (txt s)] 9)).drew) hown hgr)
                   go_must (have b5 := ((MwH.out.alloc (.cells #[.string (txt s)] 9)).drew).blk.grown hgr (fun e => by have := (MwH.out.vown.block g e.symm).1; omega))
                   have m5 : w5.cell? ⟨g, 2, none⟩ = some (.slice vaH nv vcH) := b5.cell rfl
                   have mf5 := b5.frozen 2
                   have HK := zH K5
                   clear K5 b5 hown hgr)
                | fail)
              all_goals
                go_wp2_with fail
                go_meet
                exact ⟨_, zH ⟨HK.out.1, (KT.of_below (zB.alloc zL _).drew (Nat.le_of_lt lgH)).trans HK.out.2⟩⟩
            case rest =>
              obtain ⟨vvV, hkv⟩ := hcut
              rename World => wV
              have MwV := zH hkv.out.1
              have KwV := zH (KwH.out.trans hkv.out.2)
              have BwV := zH (hkv.out.2.typ _ _ _ (by decide) (by decide) (by decide) BwH.out)
              have HwV := zH (And.intro (hkv.out.2.typ _ _ _ (by decide) (by decide) (by decide) HwH.out.1) (hkv.out.2.typ _ _ _ (by decide) (by decide) (by decide) HwH.out.2))
              have n0wV : (wV).cell? ⟨q, 0, none⟩ = some (.int .i64 (33 : Int)) := BwV.out.cell rfl
              have n3wV : (wV).cell? ⟨q, 3, none⟩ = some (.slice (some ⟨kb, ko, none⟩) [a, b_].length kc) := BwV.out.cell rfl
              go_must (have xwV : (wV).cell? ⟨kb, ko + 1, none⟩ = _ := CB_.out wV (HH.out.hw.trans (KwV.out.bel.mono HH.out.hg)))
              have PwV := zH (NPre.kid (j := 1) HH.out rfl SB_.out KwV.out MwV.out HVB2.out (put_ok o3 (by decide)) (by have := L3.out; simp [endI_len]; try omega) (by simp))
              clear hkv MwH KwH BwH HwH dH dfH lgH n1H lqH
              have tokwB : True := trivial
              go_upto_region 43 with (first
                | (have _t := tokwB; go_at_call 26; go_must (refine (IH.out b_ qb_ (vs ++ [s]) wV _ _ (o3 ++ [insI 39 0]) PwV.out).mono ?_); clear tokwB _t; rintro e wB ⟨rfl, ovwB, vvwB, hk1, hk2⟩; go_must (have MwB := zH hk1); go_must (have KwB := zH (KwV.out.trans hk2)); go_must (have BwB := zH (hk2.typ _ _ _ (by decide) (by decide) (by decide) BwV.out)); rw [HO5.out] at MwB; go_must (have HwB := zH (And.intro (hk2.typ _ _ _ (by decide) (by decide) (by decide) HwV.out.1) (hk2.typ _ _ _ (by decide) (by decide) (by decide) HwV.out.2))); obtain ⟨oaB, ocB, rfl⟩ := MwB.out.own.form; rw [HN5.out] at MwB; obtain ⟨vaB, vcB, rfl, hc1, hc2⟩ := (MwB.out.vown.read (by decide)).form; rw [HVL.out] at MwB hc1; have dB : wB.cell? ⟨g, 2, none⟩ = some (.slice vaB (nv + 1) vcB) := MwB.out.blk.cell rfl; have dfB := MwB.out.blk.frozen 2; have lgB : g < wB.heap.size := MwB.out.lt; clear hk1 hk2)
                | fail)
              have e1 : ((nv + 1 : Nat) : Int) - 1 = (nv : Int) := by omega
              have hc0 : (nv : Int) ≤ (vcB : Int) := by omega
              have hc3 : (0 : Int) ≤ (nv : Int) := Int.natCast_nonneg _
              have wr2 : IntKind.i64.wrap (nv : Int) = (nv : Int) := by rw [IntKind.wrap_i64]; have := HLV.out; omega
              have hvp := MwB.out.vpop
              rw [List.dropLast_concat] at hvp
              have HVP := zH hvp
              clear hvp
              go_cut [] from 216 to 229 (fun wx => Hid (MkSt wx g (.slice (some ⟨b, off, none⟩) nl lc) (.slice oaB n5 ocB) (.slice vaB nv vcB) o5 vs ∧ KT wB wx g))
              case first =>
                go_region
                all_goals
                  go_wp2_with fail
                  go_meet
                  first
                    | exact zH ⟨HVP.out.1.drew, HVP.out.2.trans ⟨zB.drew, fun _ _ _ _ _ _ h => h⟩⟩
                    | exact zH ⟨HVP.out.1, HVP.out.2⟩
              case rest =>
                rename World => wD
                have MwD := zH hcut.out.1
                have KwD := zH (KwB.out.trans hcut.out.2)
                have BwD := zH (hcut.out.2.typ _ _ _ (by decide) (by decide) (by decide) BwB.out)
                have HwD := zH (And.intro (hcut.out.2.typ _ _ _ (by decide) (by decide) (by decide) HwB.out.1) (hcut.out.2.typ _ _ _ (by decide) (by decide) (by decide) HwB.out.2))
                have dD : wD.cell? ⟨g, 1, none⟩ = some (.slice oaB n5 ocB) := MwD.out.blk.cell rfl
                have dfD := MwD.out.blk.frozen 1
                have lgD : g < wD.heap.size := MwD.out.lt
                clear hcut MwB KwB BwB HwB dB dfB lgB HVP
                have tokwT : True := trivial
                have tokwF : True := trivial
                go_wp2_with (first
                  | (at_builtin
                     go_must (refine wpList_append_list rfl (.tmp 234) (.tmp 237) _ (by rfl) (g + 1) (wD.heap.size + 1) 42 jI _ 4 40 Tryz.underlying22 I.out.1 I.out.2.1 I.out.2.2.1 I.out.2.2.2 rfl (by omega) (R := Ins.Is) (l := o5) (m := [⟨40, (n3 : Int), 0, ⟨#[]⟩⟩]) (.slice oaB n5 ocB) (by rfl) (by exact (MwD.out.alloc (.cells #[.int .i64 40, .int .i64 (n3 : Int), .int .i64 0, .string ⟨#[]⟩] 42)).own) (some ⟨wD.heap.size, 0, none⟩) 1 1 (by rfl) (SlR.new1 (w := wD) (e := 42) (g := wD.heap.size) rfl (x := [.int .i64 40, .int .i64 (n3 : Int), .int .i64 0, .string ⟨#[]⟩]) rfl (R := Ins.Is) (y := ⟨40, (n3 : Int), 0, ⟨#[]⟩⟩) ⟨rfl, ins_ok (by omega) (by omega) (by have := L3.out; omega) (by have := L3.out; omega) (by omega) (by omega) nil_size⟩) (n5 + 1) (by rw [HN5.out]) Ins.Is.one (by have := HL5.out; have := HN5.out; unfold maxLen; omega) (by have := HL5.out; have := HN5.out; omega) (by have := MwD.out.lt; simp; omega) ?_)
                     intro a6 cc6 w6 hown hgr
                     go_must (have K6 := MkSt.push (MwD.out.alloc (.cells #[.int .i64 40, .int .i64 (n3 : Int), .int .i64 0, .string ⟨#[]⟩] 42)) hown hgr)
                     go_must (have b6 := (MwD.out.alloc (.cells #[.int .i64 40, .int .i64 (n3 : Int), .int .i64 0, .string ⟨#[]⟩] 42)).blk.grown hgr (fun e => by have := (MwD.out.own.block g e.symm).1; omega))
                     have m6 : w6.cell? ⟨g, 1, none⟩ = some (.slice oaB n5 ocB) := b6.cell rfl
                     have mf6 := b6.frozen 1
                     have HK6 := zH K6
                     clear K6 b6 hown hgr
                     go_must (have MwT := zH HK6.out.1)
                     go_must (have KTT := (KT.of_below ((Below.refl wD.heap.size wD).alloc zL (.cells #[.int .i64 40, .int .i64 (n3 : Int), .int .i64 0, .string ⟨#[]⟩] 42)) (Nat.le_of_lt lgD)).trans HK6.out.2)
                     go_must (have KwT := zH (KwD.out.trans KTT))
                     go_must (have HwT := zH (And.intro (KTT.typ _ _ _ (by decide) (by decide) (by decide) HwD.out.1) (KTT.typ _ _ _ (by decide) (by decide) (by decide) HwD.out.2)))
                     go_must (have BwT := zH (KTT.typ _ _ _ (by decide) (by decide) (by decide) BwD.out))
                     clear KTT tokwT)
                  | (have _t := tokwF; go_at_call 61; go_must (refine (fill_any (i := n3) MwT.out HwT.out.1 HwT.out.2 (by have := L5.out; simp [endI_len]; try omega) (by have := L5.out; simp [endI_len]; try omega)).mono ?_); clear tokwF _t; rintro e wF ⟨rfl, hk1, hk2⟩; go_must (have MwF := zH hk1); go_must (have KwF := zH (KwT.out.trans hk2)); go_must (have BwF := zH (hk2.typ _ _ _ (by decide) (by decide) (by decide) BwT.out)); clear hk1 hk2)
                  | fail)
                go_end0
                rw [HCP.out]
                exact nodeK_of MwF.out KwF.out
          · obtain ⟨o3, ho3⟩ : ∃ x, o2 ++ [insI 38 0] = x := ⟨_, rfl⟩
            obtain ⟨n3, hn3⟩ : ∃ x, o3.length = x := ⟨_, rfl⟩
            have e3 : n3 = o2.length + 1 := by rw [← hn3, ← ho3]; simp
            obtain ⟨o5, ho5⟩ : ∃ x, cP f b_ (vs ++ [s]) (o3 ++ [insI 39 0]) = x := ⟨_, rfl⟩
            obtain ⟨n5, hn5⟩ : ∃ x, o5.length = x := ⟨_, rfl⟩
            obtain ⟨nv, hnv⟩ : ∃ x, vs.length = x := ⟨_, rfl⟩
            have l5 := cP_len f b_ (vs ++ [s]) (o3 ++ [insI 39 0])
            have g5 := cP_ge f b_ (vs ++ [s]) (o3 ++ [insI 39 0])
            rw [ho5, List.length_append, hn3, hn5] at l5 g5
            simp only [List.length_cons, List.length_nil] at l5 g5
            have hcp : cP (f + 1) (.node 34 s n [a, b_]) vs out = endI (o5 ++ [insI 40 (n3 : Int)]) n3 := by
              rw [e3, ← ho5, ← ho3, ← HO2.out, ← HO1.out]
              simp only [cP]
              rw [if_neg (by decide), if_pos (by decide)]
              rfl
            have HCP := zH hcp
            have HO3 := zH ho3
            have HN3 := zH hn3
            have HO5 := zH ho5
            have HN5 := zH hn5
            have HNV := zH hnv
            have HVL : Hid ((vs ++ [s]).length = nv + 1) := zH (by rw [List.length_append, hnv]; rfl)
            have HLV : Hid (nv ≤ 1000) := zH (by have := HH.out.vlen; omega)
            have L2 : Hid (o2.length + 1 ≤ 10000) := zH (by omega)
            have L3 : Hid (o3.length + 1 + 4 * b_.size ≤ 10000 ∧ o3.length = n3) := zH (by omega)
            have HL5 : Hid (n5 ≤ 100000) := zH (by omega)
            have L5 : Hid (o5.length + 1 ≤ 10000 ∧ n3 < o5.length + 1) := zH (by omega)
            have HVB2 : Hid (∀ v ∈ vs ++ [s], Bytes v) := zH (fun v hv => by
              rcases List.mem_append.1 hv with h | h
              · exact HVB.out v h
              · rw [List.mem_singleton.1 h]; exact HND.out.2.1)
            obtain ⟨jS, hi, hz, hsz, hby⟩ := info_parts info_Str
            have IS := zH (And.intro hi (And.intro hz (And.intro hsz hby)))
            clear hcp ho3 hn3 e3 ho5 hn5 hnv l2 l5 g5 lA hi hz hsz hby
            have tokwA : True := trivial
            have tokwP : True := trivial
            have tokwH : True := trivial
            go_upto_region 41 with (first
                | (have _t := tokwA; go_at_call 26; go_must (refine (IH.out a qa vs wc _ _ o1 Pwc.out).mono ?_); clear tokwA _t; rintro e wA ⟨rfl, ovwA, vvwA, hk1, hk2⟩; go_must (have MwA := zH hk1); go_must (have KwA := zH (Kwc.out.trans hk2)); go_must (have BwA := zH (hk2.typ _ _ _ (by decide) (by decide) (by decide) Bwc.out)); rw [HO2.out] at MwA; have n0wA : (wA).cell? ⟨q, 0, none⟩ = some (.int .i64 (34 : Int)) := BwA.out.cell rfl; have n3wA : (wA).cell? ⟨q, 3, none⟩ = some (.slice (some ⟨kb, ko, none⟩) [a, b_].length kc) := BwA.out.cell rfl; clear hk1 hk2)
                | (have _t := tokwP; go_at_call 44; go_must (refine (put_any 38 MwA.out (by omega) (by omega) (by have := L2.out; simp [endI_len]; try omega)).mono ?_); clear tokwP _t; rintro e wP ⟨rfl, ovwP, hk1, hk2⟩; go_must (have MwP := zH hk1); go_must (have KwP := zH (KwA.out.trans hk2)); go_must (have BwP := zH (hk2.typ _ _ _ (by decide) (by decide) (by decide) BwA.out)); rw [HO3.out] at MwP; obtain ⟨oaP, ocP, rfl⟩ := MwP.out.own.form; rw [HN3.out] at MwP; have dP : wP.cell? ⟨g, 1, none⟩ = some (.slice oaP n3 ocP) := MwP.out.blk.cell rfl; clear hk1 hk2)
                | (have _t := tokwH; go_at_call 43; go_must (refine (hole_any 39 MwP.out (by omega) (by omega) (by have := L3.out; simp [endI_len]; try omega)).mono ?_); clear tokwH _t; rintro e wH ⟨H1, H2, rfl, ⟨ovwH, hk1, hk2⟩, hb1, hb2⟩; go_must (have MwH := zH hk1); go_must (have KwH := zH (KwP.out.trans hk2)); go_must (have BwH := zH (hk2.typ _ _ _ (by decide) (by decide) (by decide) BwP.out)); go_must (have HwH := zH (And.intro hb1 hb2)); rw [HN3.out] at HwH; obtain ⟨vaH, vcH, rfl⟩ := MwH.out.vown.form; rw [HNV.out] at MwH; have dH : wH.cell? ⟨g, 2, none⟩ = some (.slice vaH nv vcH) := MwH.out.blk.cell rfl; have dfH := MwH.out.blk.frozen 2; have lgH : g < wH.heap.size := MwH.out.lt; have n1H : wH.cell? ⟨q, 1, none⟩ = some (.string (txt s)) := BwH.out.cell rfl; have lqH : q < wH.heap.size := BwH.out.lt; clear hk1 hk2 hb1 hb2; unfold holeV)
                | fail)
            go_cut [] from 199 to 209 (fun wx => ∃ vv', Hid (MkSt wx g (.slice (some ⟨b, off, none⟩) nl lc) ovwH vv' (o3 ++ [insI 39 0]) (vs ++ [s]) ∧ KT wH wx g))
            case first =>
              go_region_law (first
                | (skip
                   go_must (refine step_append_list rfl (.tmp 203) (.tmp 206) _ (by rfl) (g + 1) (wH.heap.size + 1) 9 jS _ 1 16 Tryz.underlying77 IS.out.1 IS.out.2.1 IS.out.2.2.1 IS.out.2.2.2 rfl (by omega) (R := IsTx) (l := vs) (m := [s]) (.slice vaH nv vcH) (by rfl) (by exact ((MwH.out.alloc (.cells #[.string (txt s)] 9)).drew).vown) (some ⟨wH.heap.size, 0, none⟩) 1 1 (by rfl) (by exact SlR.new1 (w := wH) (e := 9) (g := wH.heap.size) rfl (x := [.string (txt s)]) rfl (R := IsTx) (y := s) rfl) (nv + 1) (by rw [HNV.out]) IsTx.one (by have := HLV.out; have := HNV.out; unfold maxLen; omega) (by have := HLV.out; have := HNV.out; omega) (by have := MwH.out.lt; simp; omega) ?_)
                   intro a5 cc5 w5 hown hgr
                   go_must (have K5 := MkSt.vpush ((MwH.out.alloc (.cells #[.string (txt s)] 9)).drew) hown hgr)
                   go_must (have b5 := ((MwH.out.alloc (.cells #[.string (txt s)] 9)).drew).blk.grown hgr (fun e => by have := (MwH.out.vown.block g e.symm).1; omega))
                   have m5 : w5.cell? ⟨g, 2, none⟩ = some (.slice vaH nv vcH) := b5.cell rfl
                   have mf5 := b5.frozen 2
                   have HK := zH K5
                   clear K5 b5 hown hgr)
                | fail)
              all_goals
                go_wp2_with fail
                go_meet
                exact ⟨_, zH ⟨HK.out.1, (KT.of_below (zB.alloc zL _).drew (Nat.le_of_lt lgH)).trans HK.out.2⟩⟩
            case rest =>
              obtain ⟨vvV, hkv⟩ := hcut
              rename World => wV
              have MwV := zH hkv.out.1
              have KwV := zH (KwH.out.trans hkv.out.2)
              have BwV := zH (hkv.out.2.typ _ _ _ (by decide) (by decide) (by decide) BwH.out)
              have HwV := zH (And.intro (hkv.out.2.typ _ _ _ (by decide) (by decide) (by decide) HwH.out.1) (hkv.out.2.typ _ _ _ (by decide) (by decide) (by decide) HwH.out.2))
              have n0wV : (wV).cell? ⟨q, 0, none⟩ = some (.int .i64 (34 : Int)) := BwV.out.cell rfl
              have n3wV : (wV).cell? ⟨q, 3, none⟩ = some (.slice (some ⟨kb, ko, none⟩) [a, b_].length kc) := BwV.out.cell rfl
              go_must (have xwV : (wV).cell? ⟨kb, ko + 1, none⟩ = _ := CB_.out wV (HH.out.hw.trans (KwV.out.bel.mono HH.out.hg)))
              have PwV := zH (NPre.kid (j := 1) HH.out rfl SB_.out KwV.out MwV.out HVB2.out (put_ok o3 (by decide)) (by have := L3.out; simp [endI_len]; try omega) (by simp))
              clear hkv MwH KwH BwH HwH dH dfH lgH n1H lqH
              have tokwB : True := trivial
              go_upto_region 43 with (first
                | (have _t := tokwB; go_at_call 26; go_must (refine (IH.out b_ qb_ (vs ++ [s]) wV _ _ (o3 ++ [insI 39 0]) PwV.out).mono ?_); clear tokwB _t; rintro e wB ⟨rfl, ovwB, vvwB, hk1, hk2⟩; go_must (have MwB := zH hk1); go_must (have KwB := zH (KwV.out.trans hk2)); go_must (have BwB := zH (hk2.typ _ _ _ (by decide) (by decide) (by decide) BwV.out)); rw [HO5.out] at MwB; go_must (have HwB := zH (And.intro (hk2.typ _ _ _ (by decide) (by decide) (by decide) HwV.out.1) (hk2.typ _ _ _ (by decide) (by decide) (by decide) HwV.out.2))); obtain ⟨oaB, ocB, rfl⟩ := MwB.out.own.form; rw [HN5.out] at MwB; obtain ⟨vaB, vcB, rfl, hc1, hc2⟩ := (MwB.out.vown.read (by decide)).form; rw [HVL.out] at MwB hc1; have dB : wB.cell? ⟨g, 2, none⟩ = some (.slice vaB (nv + 1) vcB) := MwB.out.blk.cell rfl; have dfB := MwB.out.blk.frozen 2; have lgB : g < wB.heap.size := MwB.out.lt; clear hk1 hk2)
                | fail)
              have e1 : ((nv + 1 : Nat) : Int) - 1 = (nv : Int) := by omega
              have hc0 : (nv : Int) ≤ (vcB : Int) := by omega
              have hc3 : (0 : Int) ≤ (nv : Int) := Int.natCast_nonneg _
              have wr2 : IntKind.i64.wrap (nv : Int) = (nv : Int) := by rw [IntKind.wrap_i64]; have := HLV.out; omega
              have hvp := MwB.out.vpop
              rw [List.dropLast_concat] at hvp
              have HVP := zH hvp
              clear hvp
              go_cut [] from 216 to 229 (fun wx => Hid (MkSt wx g (.slice (some ⟨b, off, none⟩) nl lc) (.slice oaB n5 ocB) (.slice vaB nv vcB) o5 vs ∧ KT wB wx g))
              case first =>
                go_region
                all_goals
                  go_wp2_with fail
                  go_meet
                  first
                    | exact zH ⟨HVP.out.1.drew, HVP.out.2.trans ⟨zB.drew, fun _ _ _ _ _ _ h => h⟩⟩
                    | exact zH ⟨HVP.out.1, HVP.out.2⟩
              case rest =>
                rename World => wD
                have MwD := zH hcut.out.1
                have KwD := zH (KwB.out.trans hcut.out.2)
                have BwD := zH (hcut.out.2.typ _ _ _ (by decide) (by decide) (by decide) BwB.out)
                have HwD := zH (And.intro (hcut.out.2.typ _ _ _ (by decide) (by decide) (by decide) HwB.out.1) (hcut.out.2.typ _ _ _ (by decide) (by decide) (by decide) HwB.out.2))
                have dD : wD.cell? ⟨g, 1, none⟩ = some (.slice oaB n5 ocB) := MwD.out.blk.cell rfl
                have dfD := MwD.out.blk.frozen 1
                have lgD : g < wD.heap.size := MwD.out.lt
                clear hcut MwB KwB BwB HwB dB dfB lgB HVP
                have tokwT : True := trivial
                have tokwF : True := trivial
                go_wp2_with (first
                  | (at_builtin
                     go_must (refine wpList_append_list rfl (.tmp 234) (.tmp 237) _ (by rfl) (g + 1) (wD.heap.size + 1) 42 jI _ 4 40 Tryz.underlying22 I.out.1 I.out.2.1 I.out.2.2.1 I.out.2.2.2 rfl (by omega) (R := Ins.Is) (l := o5) (m := [⟨40, (n3 : Int), 0, ⟨#[]⟩⟩]) (.slice oaB n5 ocB) (by rfl) (by exact (MwD.out.alloc (.cells #[.int .i64 40, .int .i64 (n3 : Int), .int .i64 0, .string ⟨#[]⟩] 42)).own) (some ⟨wD.heap.size, 0, none⟩) 1 1 (by rfl) (SlR.new1 (w := wD) (e := 42) (g := wD.heap.size) rfl (x := [.int .i64 40, .int .i64 (n3 : Int), .int .i64 0, .string ⟨#[]⟩]) rfl (R := Ins.Is) (y := ⟨40, (n3 : Int), 0, ⟨#[]⟩⟩) ⟨rfl, ins_ok (by omega) (by omega) (by have := L3.out; omega) (by have := L3.out; omega) (by omega) (by omega) nil_size⟩) (n5 + 1) (by rw [HN5.out]) Ins.Is.one (by have := HL5.out; have := HN5.out; unfold maxLen; omega) (by have := HL5.out; have := HN5.out; omega) (by have := MwD.out.lt; simp; omega) ?_)
                     intro a6 cc6 w6 hown hgr
                     go_must (have K6 := MkSt.push (MwD.out.alloc (.cells #[.int .i64 40, .int .i64 (n3 : Int), .int .i64 0, .string ⟨#[]⟩] 42)) hown hgr)
                     go_must (have b6 := (MwD.out.alloc (.cells #[.int .i64 40, .int .i64 (n3 : Int), .int .i64 0, .string ⟨#[]⟩] 42)).blk.grown hgr (fun e => by have := (MwD.out.own.block g e.symm).1; omega))
                     have m6 : w6.cell? ⟨g, 1, none⟩ = some (.slice oaB n5 ocB) := b6.cell rfl
                     have mf6 := b6.frozen 1
                     have HK6 := zH K6
                     clear K6 b6 hown hgr
                     go_must (have MwT := zH HK6.out.1)
                     go_must (have KTT := (KT.of_below ((Below.refl wD.heap.size wD).alloc zL (.cells #[.int .i64 40, .int .i64 (n3 : Int), .int .i64 0, .string ⟨#[]⟩] 42)) (Nat.le_of_lt lgD)).trans HK6.out.2)
                     go_must (have KwT := zH (KwD.out.trans KTT))
                     go_must (have HwT := zH (And.intro (KTT.typ _ _ _ (by decide) (by decide) (by decide) HwD.out.1) (KTT.typ _ _ _ (by decide) (by decide) (by decide) HwD.out.2)))
                     go_must (have BwT := zH (KTT.typ _ _ _ (by decide) (by decide) (by decide) BwD.out))
                     clear KTT tokwT)
                  | (have _t := tokwF; go_at_call 61; go_must (refine (fill_any (i := n3) MwT.out HwT.out.1 HwT.out.2 (by have := L5.out; simp [endI_len]; try omega) (by have := L5.out; simp [endI_len]; try omega)).mono ?_); clear tokwF _t; rintro e wF ⟨rfl, hk1, hk2⟩; go_must (have MwF := zH hk1); go_must (have KwF := zH (KwT.out.trans hk2)); go_must (have BwF := zH (hk2.typ _ _ _ (by decide) (by decide) (by decide) BwT.out)); clear hk1 hk2)
                  | fail)
                go_end0
                rw [HCP.out]
                exact nodeK_of MwF.out KwF.out
      · have hcp : cP (f + 1) (.node k s n ks) vs out = cK f vs ks o1 ++ [⟨sameN k, 0, 0, txt s⟩] := by
          rw [← HO1.out]
          refine cP_def ?_
          rcases kd with h | ⟨⟨a, h⟩, _⟩ | ⟨⟨a, b, h⟩, h2⟩
          · exact .inl h
          · exact .inr (.inl ⟨a, h⟩)
          · exact .inr (.inr ⟨a, b, h, h2⟩)
        have hkk : (3 ≤ k ∧ k ≤ 6) ∨ (8 ≤ k ∧ k ≤ 26) ∨ k = 29 := by omega
        have HCP := zH hcp
        have SM := zH (same_any k hkk)
        have HSZ : Hid ((txt s).size ≤ maxLen) := zH (by rw [txt_size]; have := HSL.out; unfold maxLen; omega)
        have hall : ∀ t ∈ ks, t.Good ∧ t.deep ≤ f := fun t ht => by
          obtain ⟨j, hj⟩ := List.mem_iff_getElem?.1 ht
          exact ⟨good_at HH.out.good.2 hj, by have := deep_at hj; have h2 := deep_one HH.out.deep; omega⟩
        have HALL := zH hall
        have hsm : -9223372036854775808 ≤ sameN k ∧ sameN k ≤ 9223372036854775807 := by unfold sameN; split; omega; split; omega; omega
        have HSM := zH hsm
        have e1 : ((k : Int) == 1) = false := by rw [beq_eq_false_iff_ne]; omega
        have e2 : ((k : Int) == 2) = false := by rw [beq_eq_false_iff_ne]; omega
        have e7 : ((k : Int) == 7) = false := by rw [beq_eq_false_iff_ne]; omega
        have e27 : ((k : Int) == 27) = false := by rw [beq_eq_false_iff_ne]; omega
        have e28 : ((k : Int) == 28) = false := by rw [beq_eq_false_iff_ne]; omega
        have e30 : ((k : Int) == 30) = false := by rw [beq_eq_false_iff_ne]; omega
        have e31 : ((k : Int) == 31) = false := by rw [beq_eq_false_iff_ne]; omega
        have e32 : ((k : Int) == 32) = false := by rw [beq_eq_false_iff_ne]; omega
        have e33 : ((k : Int) == 33) = false := by rw [beq_eq_false_iff_ne]; omega
        have e34 : ((k : Int) == 34) = false := by rw [beq_eq_false_iff_ne]; omega
        have hkl : ks.length ≤ 3 := by rcases kd with ⟨h, _⟩ | ⟨⟨a, h⟩, _⟩ | ⟨⟨a, b, h⟩, _⟩ <;> rw [h] <;> simp
        clear hcp hkk hall hsm hsh kd
        go_wp2_with fail
        go_loopw [65] (fun j wr => ∃ i : Nat, i ≤ ks.length ∧ j = .int .i64 (i : Int) ∧ ∃ ov6 vv6, Hid (MkSt wr g (.slice (some ⟨b, off, none⟩) nl lc) ov6 vv6 (cK f vs (ks.take i) o1) vs ∧ KT W wr g ∧ Blk wr q 45 #[.int .i64 (k : Int), .string (txt s), .int .i64 n, .slice ka ks.length kc])) (fun j _ => ks.length - (intOf j).toNat)
        case atStart => exact ⟨0, Nat.zero_le _, rfl, _, _, zH ⟨M.out, KT0.out, NB.out⟩⟩
        case round =>
          obtain ⟨i, hi, rfl, ov6, vv6, h6⟩ := hrel
          by_cases hlt : i < ks.length
          · obtain ⟨a, ha⟩ := get_some rfl hlt
            have M6 := zH h6.out.1
            have K6 := zH h6.out.2.1
            have B6 := zH h6.out.2.2
            obtain ⟨kb, ko, rfl⟩ := kid_form HKV.out HKS.out ha
            obtain ⟨qa, hst, hca⟩ := kid_cell HKV.out HKS.out ha
            have xk := hca wr (HH.out.hw.trans (K6.out.bel.mono HH.out.hg))
            have P6 := zH (NPre.kid HH.out ha hst K6.out M6.out HVB.out (cK_ok _ _ (fun t ht => HALL.out t (List.mem_of_mem_take ht)) HS1.out) (by have h1 := cK_len (f := f) (vs := vs) (ks.take i) o1; have h2 := sizeL_take ha; have := HLN.out; have := HN.out; omega) (by omega))
            have hik : (i : Int) < (ks.length : Int) := by omega
            have hi0 : (0 : Int) ≤ (i : Int) := Int.natCast_nonneg _
            have hT : Hid (cP f a vs (cK f vs (ks.take i) o1) = cK f vs (ks.take (i + 1)) o1) := zH (by rw [List.take_add_one, ha]; exact (cK_snoc _ _ _).symm)
            clear ha hst hca h6
            go_wp2_with (first
              | (go_at_call 26; go_must (refine (IH.out a qa vs wr _ _ _ P6.out).mono ?_); rintro e w5 ⟨rfl, ov5, vv5, hk1, hk2⟩; rw [hT.out] at hk1; go_must (have M5 := zH hk1); go_must (have K5 := zH (K6.out.trans hk2)); go_must (have B5 := zH (hk2.typ _ _ _ (by decide) (by decide) (by decide) B6.out)); clear hk1 hk2)
              | fail)
            go_roundw
            case rel => exact ⟨i + 1, by omega, by go_num, ov5, vv5, zH ⟨M5.out, K5.out, B5.out⟩⟩
            case measure => simp [intOf]; omega
          · have hie : i = ks.length := by omega
            subst hie
            rw [List.take_length] at h6
            obtain ⟨ok, hok⟩ : ∃ x, cK f vs ks o1 = x := ⟨_, rfl⟩
            rw [hok] at h6
            obtain ⟨oa6, oc6, rfl⟩ := h6.out.1.own.form
            have hl6 := cK_len (f := f) (vs := vs) ks o1
            rw [hok] at hl6
            obtain ⟨n6, hn6⟩ : ∃ n, ok.length = n := ⟨_, rfl⟩
            rw [hn6] at h6 hl6
            have M6 := zH h6.out.1
            have K6 := zH h6.out.2.1
            have B6 := zH h6.out.2.2
            have d6 : wr.cell? ⟨g, 1, none⟩ = some (.slice oa6 n6 oc6) := M6.out.blk.cell rfl
            have df6 := M6.out.blk.frozen 1
            have lg6 : g < wr.heap.size := M6.out.lt
            have q0 : wr.cell? ⟨q, 0, none⟩ = some (.int .i64 (k : Int)) := B6.out.cell rfl
            have q1 : wr.cell? ⟨q, 1, none⟩ = some (.string (txt s)) := B6.out.cell rfl
            have lq6 : q < wr.heap.size := B6.out.lt
            have HN6 := zH hn6
            have HL6 : Hid (n6 ≤ 100000) := zH (by have := HLN.out; have := HN.out; omega)
            have HOK := zH hok
            clear h6 hl6 hn6 hok hlt hi d0 df lg n0 n1' n2 n3 lq
            have tokA : True := trivial
            go_wp2_with fail
            go_region_law (first
              | (have _t := tokA; go_simp; go_at_call 45; go_must (refine (SM.out _).mono ?_); rintro e w3 ⟨rfl, nq, rfl⟩; have d7 : (wr.drewN (1 + nq)).cell? ⟨g, 1, none⟩ = some (.slice oa6 n6 oc6) := d6; have df7 : (wr.drewN (1 + nq)).frozen? ⟨g, 1, none⟩ = false := df6; have d8 : ((wr.drewN (1 + nq)).alloc (.cells #[.int .i64 (sameN k), .int .i64 0, .int .i64 0, .string (txt s)] 42)).cell? ⟨g, 1, none⟩ = some (.slice oa6 n6 oc6) := ((M6.out.drewN (1 + nq)).alloc _).blk.cell rfl; have q7 : (wr.drewN (1 + nq)).cell? ⟨q, 1, none⟩ = some (.string (txt s)) := q1; clear tokA _t)
              | (skip
                 go_must (refine step_append_list rfl (.tmp 77) (.tmp 84) _ (by rfl) (g + 1) (wr.heap.size + 1) 42 jI _ 4 40 Tryz.underlying22 I.out.1 I.out.2.1 I.out.2.2.1 I.out.2.2.2 rfl (by omega) (R := Ins.Is) (l := ok) (m := [⟨sameN k, 0, 0, txt s⟩]) (.slice oa6 n6 oc6) (by rfl) (by exact ((M6.out.drewN (1 + nq)).alloc (.cells #[.int .i64 (sameN k), .int .i64 0, .int .i64 0, .string (txt s)] 42)).own) (some ⟨wr.heap.size, 0, none⟩) 1 1 (by rfl) (by exact SlR.new1 (w := (wr.drewN (1 + nq))) (e := 42) (g := wr.heap.size) rfl (x := [.int .i64 (sameN k), .int .i64 0, .int .i64 0, .string (txt s)]) rfl (R := Ins.Is) (y := ⟨sameN k, 0, 0, txt s⟩) ⟨rfl, ins_ok HSM.out.1 HSM.out.2 (by omega) (by omega) (by omega) (by omega) HSZ.out⟩) (n6 + 1) (by rw [HN6.out]) Ins.Is.one (by have := HL6.out; have := HN6.out; unfold maxLen; omega) (by have := HL6.out; have := HN6.out; omega) (by have := M6.out.lt; simp; omega) ?_)
                 intro a6 cc6 w6 hown hgr
                 go_must (have K6 := MkSt.push ((M6.out.drewN (1 + nq)).alloc (.cells #[.int .i64 (sameN k), .int .i64 0, .int .i64 0, .string (txt s)] 42)) hown hgr)
                 go_must (have b6 := ((M6.out.drewN (1 + nq)).alloc (.cells #[.int .i64 (sameN k), .int .i64 0, .int .i64 0, .string (txt s)] 42)).blk.grown hgr (fun e => by have := (M6.out.own.block g e.symm).1; omega))
                 have m6 : w6.cell? ⟨g, 1, none⟩ = some (.slice oa6 n6 oc6) := b6.cell rfl
                 have mf6 := b6.frozen 1
                 have HK6 := zH K6
                 clear K6 b6 hown hgr)
              | fail)
            all_goals
              go_wp2_with fail
              go_end0
              rw [HCP.out, HOK.out]
              exact nodeK_of HK6.out.1 (K6.out.trans ((KT.of_below ((below_drewN (Below.refl wr.heap.size wr) (1 + nq)).alloc zL _) (Nat.le_of_lt lg6)).trans HK6.out.2))
end Go.Proofs.YtdkoafmgenbkbaaGreatDoor
