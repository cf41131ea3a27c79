/- lang.Names, walked: what it hands back is a row of its own: the concepts' names in order, each once. -/
import Derived.Test.YtdhljfblkidohaaNames
import Derived.Test.YtdhljfblkidohaaShelf
import Derived.Test.YtdhljfblkidohaaTn
import Derived.Outline
namespace Go.Proofs.Ytdhljfblkidohaa
set_option linter.unusedSimpArgs false
set_option linter.unusedVariables false
open Go.RowKit

set_option maxRecDepth 100000 in
set_option maxHeartbeats 4000000 in
theorem names_any {x : List Value} {d : Language} (w w0 : World) (h : Language.Is w0 w0.heap.size x d) (hw : Below w0.heap.size w0 w) :
    Calls Try.prog 11 #[.agg x.toArray] w fun e w' => (∃ a c, e = .returned (.slice a (namesN d).length c) ∧ Own1 w' w.heap.size 9 1 IsText (.slice a (namesN d).length c) (namesN d)) ∧ Below w.heap.size w w' := by
  obtain ⟨v2, v3, v4, v5, v6, v7, rfl, s2, s3, s4, s5, s6, s7, hfit, _⟩ := h
  obtain ⟨j2, hi, hz, hs, hb⟩ := info_parts infoL_text
  have I2 := Lib.hid (And.intro hi (And.intro hz (And.intro hs hb)))
  clear hi hz hs hb
  obtain ⟨a2, n2, c2, rfl⟩ := s2.form'
  obtain ⟨a3, n3, c3, rfl⟩ := s3.form'
  obtain ⟨a4, n4, c4, rfl⟩ := s4.form'
  obtain ⟨a5, n5, c5, rfl⟩ := s5.form'
  obtain ⟨a6, n6, c6, rfl⟩ := s6.form'
  obtain ⟨a7, n7, c7, rfl⟩ := s7.form'
  have G3 : n3 * 112 ≤ 140737488355328 := by have := hfit.2.1; rw [← s3.len] at this; exact this
  have F3 : n3 ≤ 9223372036854775807 := by omega
  have S3 := Lib.hid s3
  have Hw := Lib.hid hw
  have hlen : d.concepts.length = n3 := s3.len.symm
  clear s2 s3 s4 s5 s6 s7 hfit hw
  go_enter Try.func11, Try.ntmps11
  try dsimp only [List.append]
  go_wp2_with fail
  go_loopw [3, 9] (fun out j wr => ∃ k : Nat, k ≤ n3 ∧ j = .int .i64 k ∧ Hid (Own1 wr w.heap.size 9 1 IsText out ((d.concepts.take k).map fun c => c.name) ∧ Below w.heap.size w wr)) (fun _ j _ => n3 - (intOf j).toNat)
  case atStart =>
    exact ⟨0, Nat.zero_le _, rfl, ⟨[], World.ownsRow_nil _ _ _ _, FlatR.nil_⟩, (Below.refl _ _).alloc (Nat.le_refl _) _⟩
  case round =>
    obtain ⟨k, hk, rfl, hinv⟩ := hrel
    obtain ⟨ho, hbl⟩ := hinv.out
    have HBw : Below w0.heap.size w0 wr := Hw.out.trans (hbl.mono Hw.out.size)
    by_cases hlt : k < n3
    · obtain ⟨y, hd⟩ := get_some hlen hlt
      obtain ⟨b, off, x, rfl, hbB, hxl, ⟨v1, v2, v3, rfl, q1, q2, q3, _, _, _, hnm, _⟩, hx⟩ := (S3.out.below HBw).at_ hd
      obtain ⟨p1, m1, c1, rfl⟩ := q1.form'
      obtain ⟨p2, m2, c2, rfl⟩ := q2.form'
      obtain ⟨p3, m3, c3, rfl⟩ := q3.form'
      have h0 := hx 0 _ rfl
      have h1 := hx 1 _ rfl
      have h2 := hx 2 _ rfl
      have h3 := hx 3 _ rfl
      have h4 := hx 4 _ rfl
      have h5 := hx 5 _ rfl
      simp only [Nat.add_zero] at h0
      have hyk : (d.concepts.take k).map (fun c => c.name) ++ [y.name] = (d.concepts.take (k + 1)).map fun c => c.name := by
        rw [List.take_succ_eq_append_getElem (by omega), (List.getElem?_eq_some_iff.1 hd).2, List.map_append]
        rfl
      have hlk : ((d.concepts.take k).map fun c => c.name).length = k := by rw [List.length_map, List.length_take]; omega
      have Hyk := Lib.hid hyk
      have Hlk := Lib.hid hlk
      have Hnm := Lib.hid hnm
      have Hs := hbl.size
      clear hd hx hxl q1 q2 q3 hnm hyk hlk ho hbl HBw
      go_wp2_with (at_builtin
                   go_must (refine wpList_append_list rfl (.tmp 13) (.tmp 16) _ rfl w.heap.size (wr.heap.size + 1 + 1) 9 j2 _ 1 16 Try.underlying22 I2.out.1 I2.out.2.1 I2.out.2.2.1 I2.out.2.2.2 rfl (by omega) (R := IsText) (l := (d.concepts.take k).map fun c => c.name) (m := [y.name]) u3 rfl (by exact (hinv.out.1.alloc (.cells #[.string y.name, .string y.super, .bool y.abs, .slice p1 m1 c1, .slice p2 m2 c2, .slice p3 m3 c3] 38)).alloc (.cells #[.string y.name] 9)) (some ⟨wr.heap.size + 1, 0, none⟩) 1 1 rfl (by have := SlR.new1 (w := wr.alloc (.cells #[.string y.name, .string y.super, .bool y.abs, .slice p1 m1 c1, .slice p2 m2 c2, .slice p3 m3 c3] 38)) (e := 9) (g := wr.heap.size + 1) (by simp) (x := [.string y.name]) rfl (R := IsText) (y := y.name) ⟨rfl, Hnm.out⟩; simpa using this) (k + 1) (by rw [Hlk.out]) (fun x y hx u hu => by rw [hx.1] at hu; simp at hu; subst hu; rfl) (by rw [Hlk.out]; unfold maxLen; omega) (by rw [Hlk.out]; omega) (by simp; omega) ?_)
                   intro xa xc w4 hown hgrow
                   have H4 := Lib.hid (And.intro hown hgrow)
                   clear hown hgrow)
      go_roundw
      case rel =>
        refine ⟨k + 1, by omega, by go_num, ?_⟩
        obtain ⟨hown, hgrow⟩ := H4.out
        rw [Hyk.out] at hown
        exact ⟨hown, (((hinv.out.2.alloc Hs (.cells #[.string y.name, .string y.super, .bool y.abs, .slice p1 m1 c1, .slice p2 m2 c2, .slice p3 m3 c3] 38)).alloc (by simp; omega) (.cells #[.string y.name] 9))).grown hgrow (by simp; omega) (fun g hg => (hinv.out.1.block g hg).1)⟩
      case measure => simp [intOf]; omega
    · have hge : n3 ≤ k := by omega
      have hall : (d.concepts.take k) = d.concepts := List.take_of_length_le (by omega)
      rw [hall] at ho
      have hsm : ∀ s ∈ d.concepts.map (fun c => c.name), s.size ≤ maxLen := by
        intro s hs
        obtain ⟨c, hc, rfl⟩ := List.mem_map.1 hs
        obtain ⟨i, hi⟩ := List.mem_iff_getElem?.1 hc
        obtain ⟨_, _, _, _, _, _, ⟨_, _, _, _, _, _, _, _, _, _, hnm, _⟩, _⟩ := S3.out.at_ hi
        exact hnm
      obtain ⟨l, hl⟩ : ∃ l, d.concepts.map (fun c => c.name) = l := ⟨_, rfl⟩
      have hdl : namesN d = sortedN l := by unfold namesN; rw [hl]
      have hll : l.length = n3 := by rw [← hl, List.length_map, hlen]
      rw [hl] at ho hsm
      obtain ⟨a, c, rfl⟩ := ho.form
      rw [hll] at ho ⊢
      have Hbl := Lib.hid hbl
      have Hsm := Lib.hid hsm
      have Hdl := Lib.hid hdl
      clear hlt hall hsm hl hdl hinv HBw hbl
      rcases Nat.eq_zero_or_pos n3 with hn0 | hn0
      · subst hn0
        have hl0 : l = [] := List.eq_nil_of_length_eq_zero hll
        subst hl0
        have Ho := Lib.hid ho
        clear ho
        go_wp2_with (first
          | (go_at_call 41; refine (Try.slices_Sort_string_none a c _).mono ?_; rintro e w' ⟨rfl, rfl⟩)
          | (go_at_call 42; refine (Try.slices_Compact_string_empty a c _).mono ?_; rintro e w' ⟨rfl, rfl⟩))
        go_ret
        have hs0 : sortedN [] = [] := by simp [sortedN, Go.Lib.compact, Go.Lib.compactUpTo]
        refine ⟨⟨a, c, ?_, ?_⟩, Hbl.out⟩
        · rw [Hdl.out, hs0]; rfl
        · rw [Hdl.out, hs0]; exact Ho.out
      · have ho' : Own1 wr w.heap.size 9 1 IsText (.slice a l.length c) l := by rw [hll]; exact ho
        obtain ⟨g, rfl, hbg, hgl, hnc, hcm, hH⟩ := texts_holds ho' (by omega)
        obtain ⟨ss, hss⟩ : ∃ ss, l.map bsL = ss := ⟨_, rfl⟩
        have hsl : ss.length = n3 := by rw [← hss, List.length_map, hll]
        rw [hss] at hH
        have hsort := Try.slices_Sort_string g 0 c ss wr hH hgl (by omega)
        rw [hsl] at hsort
        have hH2 : ∀ (nn : Nat) (os : Array Obj), Go.Sort.Holds encStr (Go.Sort.grow (Go.Sort.putRow encStr (Go.Sort.ahead wr nn) g 0 (ss.mergeSort fun x y => decide (x ≤ y)).toArray) os) g 0 (ss.mergeSort fun x y => decide (x ≤ y)).toArray := fun nn os =>
          Go.Sort.holds_grow encStr _ os g 0 _ (by simpa [Go.Sort.putRow, Go.Sort.mapBlock, Go.Sort.ahead] using hgl) (Go.Sort.holds_putRow encStr _ g 0 _ _ (Go.Sort.holds_ahead encStr wr nn g 0 _ hH) (by simp))
        have hl2 : (ss.mergeSort fun x y => decide (x ≤ y)).length = n3 := by rw [List.length_mergeSort]; exact hsl
        have hcomp : ∀ (nn : Nat) (os : Array Obj), _ := fun nn os => Try.slices_Compact_string g 0 c (ss.mergeSort fun x y => decide (x ≤ y)) _ (hH2 nn os) (by omega) (by omega)
        have HC := Lib.hid hcomp
        have HE := Lib.hid (fun (nn q : Nat) (os : Array Obj) => names_end (nn := nn) (q := q) (os := os) ho' Hsm.out Hbl.out (Nat.le_refl _))
        have HSS := Lib.hid hss
        have HL2 := Lib.hid hl2
        clear hcomp hH2 hH ho ho' hl2 hss hsl
        go_wp2_with (first
          | (go_at_call 41; refine hsort.mono ?_; rintro e w2 ⟨rfl, nn, os, rfl⟩; have hcomp := HC.out nn os; rw [HL2.out] at hcomp; clear hsort)
          | (go_at_call 42; refine hcomp.mono ?_; rintro e w3 ⟨rfl, q, rfl⟩))
        go_ret
        have he := HE.out nn q os
        rw [HSS.out, hll] at he
        refine ⟨⟨some ⟨g, 0, none⟩, c, ?_, ?_⟩, he.2⟩
        · rw [Hdl.out, sorted_length, HSS.out]
          rfl
        · rw [Hdl.out]
          have := he.1
          rw [sorted_length, HSS.out]
          exact this
end Go.Proofs.Ytdhljfblkidohaa
