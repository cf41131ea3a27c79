/- The reference's Tree: a stack of what is still to be met. -/
import Derived.Test.YtdhljfblkidohaaTwC
import Derived.Test.YtdhljfblkidohaaTree
namespace Go.Proofs.Ytdhljfblkidohaa
set_option linter.unusedSimpArgs false
set_option linter.unusedVariables false
open Go.RowKit

theorem IsInt.one (x : List Value) (y : Int) (hx : IsInt x y) : ∀ u ∈ x, u.oneCell' = true := by
  intro u hu
  rw [hx.1] at hu
  simp at hu
  subst hu
  rfl
/-- the last one is taken off -/
theorem Own1.pop {w : World} {base : Nat} {e : TypeId} {l : List Int} {t : Int} {a : Option Addr} {n c : Nat} (h : Own1 w base e 1 IsInt (.slice a (n + 1) c) (l ++ [t])) (hn : l.length = n) : Own1 w base e 1 IsInt (.slice a n c) l := by
  obtain ⟨xs, ⟨h1, h2⟩, h3, h4⟩ := h
  rw [List.length_append] at h1 h3
  rcases h2 with ⟨h2, _⟩ | ⟨g, cap, cur, hv, hb, hc, hle, hcm, hcs, htk⟩
  · injection h2 with e1 e2
    omega
  · injection hv with e1 e2 e3
    subst e1 e3
    refine ⟨xs.take n, ⟨?_, .inr ⟨g, c, cur, by rw [hn], hb, hc, by rw [hn]; simp at hle; omega, hcm, hcs, ?_⟩⟩, ?_, ?_⟩
    · rw [List.length_take]; simp at h1; omega
    · rw [← htk, List.take_take, hn]
      congr 1
      simp
      omega
    · rw [List.length_take]; simp at h3; omega
    · intro i y hy
      have hi : i < l.length := (List.getElem?_eq_some_iff.1 hy).1
      have := h4 i y (by rw [List.getElem?_append_left hi]; exact hy)
      have he : ((xs.take n).drop (i * 1)).take 1 = (xs.drop (i * 1)).take 1 := by
        rw [List.drop_take, List.take_take]
        congr 1
        omega
      rw [he]
      exact this
/-- its last one, as a cell -/
theorem Own1.last {w : World} {base : Nat} {e : TypeId} {l : List Int} {t : Int} {a : Option Addr} {n c : Nat} (h : Own1 w base e 1 IsInt (.slice a (n + 1) c) (l ++ [t])) (hn : l.length = n) :
    ∃ g, a = some ⟨g, 0, none⟩ ∧ base ≤ g ∧ g < w.heap.size ∧ n + 1 ≤ c ∧ w.cell? ⟨g, n, none⟩ = some (.int .i64 t) := by
  obtain ⟨xs, ⟨h1, h2⟩, h3, h4⟩ := h
  rcases h2 with ⟨h2, _⟩ | ⟨g, cap, cur, hv, hb, hc, hle, hcm, hcs, htk⟩
  · injection h2 with e1 e2
    omega
  · injection hv with e1 e2 e3
    subst e1 e3
    rw [List.length_append] at hle htk
    simp only [List.length_cons, List.length_nil] at hle htk
    refine ⟨g, rfl, hb, ?_, by omega, ?_⟩
    · rcases Nat.lt_or_ge g w.heap.size with hlt | hge
      · exact hlt
      · rw [Array.getElem?_eq_none hge] at hc; cases hc
    · have := (h4 n t (by rw [← hn, List.getElem?_append_right (Nat.le_refl _), Nat.sub_self]; rfl)).1
      rw [← htk] at this
      have hn1 : n < cur.size := by omega
      rw [Nat.mul_one, List.drop_take, List.take_take] at this
      rw [World.cell?]
      simp only [hc]
      have h0 : cur.toList[n]? = some (.int .i64 t) := by
        have := congrArg (fun z => z[0]?) this
        simp only [List.getElem?_take, List.getElem?_drop] at this
        rw [if_pos (by omega)] at this
        simpa using this
      simpa using h0

set_option maxRecDepth 100000 in
set_option maxHeartbeats 4000000 in
theorem r_tree {l : List Side} {v : Value} (w w0 : World) (hs : SlR w0 w0.heap.size 4 (Side.Is w0 w0.heap.size) v l) (hw : Below w0.heap.size w0 w) (hsmall : l.length ≤ 2000) :
    Calls Try.prog 16 #[v] w fun e w' => e = .returned (.bool (treeB l)) ∧ Below w.heap.size w w' := by
  obtain ⟨j, hi, hz, hsz, hby⟩ := info_parts info_int
  have I := Lib.hid (And.intro hi (And.intro hz (And.intro hsz hby)))
  clear hi hz hsz hby
  obtain ⟨a, c, rfl⟩ : ∃ a c, v = .slice a l.length c := by obtain ⟨a, c, h, _⟩ := hs.form; exact ⟨a, c, h⟩
  obtain ⟨n, hlen⟩ : ∃ n, l.length = n := ⟨_, rfl⟩
  rw [hlen] at hs hsmall ⊢
  rw [treeB_eq]
  have Hlen := Lib.hid hlen
  have Hs := Lib.hid hs
  have Hw := Lib.hid hw
  have hwz := hw.size
  clear hs hw hlen
  go_enter Try.func16, Try.ntmps16
  go_wp2_with fail
  have hO0 : Own1 (w.alloc (.cells #[.int .i64 0] 3)) w.heap.size 3 1 IsInt (.slice (some ⟨w.heap.size, 0, none⟩) 1 1) [0] :=
    ⟨[.int .i64 0], ⟨rfl, .inr ⟨w.heap.size, 1, #[.int .i64 0], rfl, Nat.le_refl _, heap_alloc_new w _, Nat.le_refl _, by unfold maxLen; omega, rfl, rfl⟩⟩, FlatR.one rfl ⟨rfl, rfl⟩⟩
  go_loopw [3, 4, 5, 6] (fun st m _ _ wr => ∃ (q : List Int) (k : Nat) (sa : Option Addr) (sc : Nat), st = .slice sa q.length sc ∧ m = .int .i64 (k : Int) ∧ k ≤ n ∧ q.length ≤ 1 + k * 2000 ∧ Hid (Own1 wr w.heap.size 3 1 IsInt (.slice sa q.length sc) q.reverse) ∧ Hid (Below w.heap.size w wr) ∧ Hid (treeS l [0] 0 = treeS l q k)) (fun _ m _ _ _ => n + 1 - (intOf m).toNat)
  case atStart => exact ⟨[0], 0, _, 1, rfl, rfl, by omega, by simp, Lib.hid hO0, Lib.hid ((Below.refl _ _).alloc (Nat.le_refl _) _), Lib.hid rfl⟩
  case round =>
    obtain ⟨q, k, sa, sc, rfl, rfl, hk, hq, hO, hB, hT⟩ := hrel
    rcases q with _ | ⟨t, q⟩
    · have hz : treeS l [0] 0 = decide (k = n) := by rw [hT.out, treeS_nil, Hlen.out]
      have HZ := Lib.hid hz
      clear hz hT hO hq
      simp only [List.length_nil]
      go_wp2_with fail
      go_ret
      refine ⟨?_, hB.out⟩
      rw [HZ.out]
      by_cases h : k = n
      · simp [h]
      · first | (simp [h]; done) | (simp [h]; omega)
    · obtain ⟨qn, hqn⟩ : ∃ z, q.length = z := ⟨_, rfl⟩
      have hO1 := hO.out
      simp only [List.length_cons, List.reverse_cons] at hO1 hq ⊢
      rw [hqn] at hO1 hq ⊢
      obtain ⟨g, rfl, hgb, hgl, hgc, hgt⟩ := hO1.last (by rw [List.length_reverse, hqn])
      have hP := Lib.hid (hO1.pop (by rw [List.length_reverse, hqn]))
      have hB' := hB
      have Hqn := Lib.hid hqn
      clear hO hO1 hqn hB
      have e1 : decide (0 < (qn : Int) + 1) = true := by first | (simp; done) | (simp; omega)
      by_cases htk : t = (k : Int)
      rotate_left
      · have hz : treeS l [0] 0 = false := by rw [hT.out, treeS_bad htk]
        have HZ := Lib.hid hz
        have ne : (t != (k : Int)) = true := by simpa using htk
        clear hz hT
        go_wp2_with fail
        go_ret
        exact ⟨by rw [HZ.out]; rfl, hB'.out⟩
      subst htk
      by_cases hkn : n ≤ k
      · have hz : treeS l [0] 0 = false := by rw [hT.out, treeS_out (by rw [Hlen.out]; exact hkn)]
        have HZ := Lib.hid hz
        have d1 : decide ((n : Int) ≤ (k : Int)) = true := by simp; omega
        clear hz hT
        go_wp2_with fail
        go_ret
        exact ⟨by rw [HZ.out]; rfl, hB'.out⟩
      have hlt : k < n := by omega
      have d1 : decide ((n : Int) ≤ (k : Int)) = false := by simp; omega
      obtain ⟨y, hd⟩ := get_some Hlen.out hlt
      have hWr := Hw.out.trans (hB'.out.mono Hw.out.size)
      obtain ⟨b, off, x, rfl, hbB, hxl, ⟨u, rfl, hsa, _⟩, hx⟩ := Hs.out.at_ hd
      obtain ⟨ya, hya⟩ : ∃ z, y.args = z := ⟨_, rfl⟩
      rw [hya] at hsa
      have hst : ∀ rest, treeS l ((k : Int) :: rest) k = treeS l (ya ++ rest) (k + 1) := fun rest => by rw [treeS_step hd, hya]
      rw [hst] at hT
      obtain ⟨m, hm⟩ : ∃ m, ya.length = m := ⟨_, rfl⟩
      obtain ⟨ua, uc, rfl⟩ : ∃ a c, u = .slice a m c := by obtain ⟨a, c, h, _⟩ := hsa.form; exact ⟨a, c, by rw [h, hm]⟩
      have H3 := Lib.hid (hx 3 _ rfl)
      have h3 : wr.cell? ⟨b, off + k * 4 + 3, none⟩ = some (.slice ua m uc) := (hWr.cell hbB).trans H3.out
      have hmc := hsa.caps
      have Hm := Lib.hid hm
      have hb1 : b < wr.heap.size := by have := hB'.out.size; omega
      have hbg : b ≠ g := by omega
      have HsA := Lib.hid hsa
      clear hx hxl hd hst hya hWr hsa hm
      by_cases hmn : n < m
      · have hz : treeS l [0] 0 = false := by rw [hT.out, treeS_few (by rw [List.length_append, Hm.out, Hlen.out]; omega)]
        have HZ := Lib.hid hz
        have d2 : decide ((n : Int) < (m : Int)) = true := by simp; omega
        clear hz hT
        go_wp2_with fail
        go_ret
        exact ⟨by rw [HZ.out]; rfl, hB'.out⟩
      have d2 : decide ((n : Int) < (m : Int)) = false := by simp; omega
      have hkq : qn ≤ k * 2000 := by omega
      obtain ⟨K2, hK2⟩ : ∃ z, k * 2000 = z := ⟨_, rfl⟩
      have hK2b : K2 ≤ 4000000 := by omega
      go_wp2_with fail
      obtain ⟨wo, hwo⟩ : ∃ wo, wo = wr := ⟨wr, rfl⟩
      subst hwo
      go_loopw [3, 6] (fun st i wr => ∃ (z : Nat) (ta : Option Addr) (tc : Nat) (iv : Int), z ≤ m ∧ st = .slice ta (qn + z) tc ∧ i = .int .i64 iv ∧ iv = (m : Int) - 1 - (z : Int) ∧ Hid (Own1 wr w.heap.size 3 1 IsInt (.slice ta (qn + z) tc) (q.reverse ++ (ya.drop (m - z)).reverse)) ∧ Hid (Below w.heap.size w wr)) (fun _ i _ => (intOf i + 1).toNat)
      case atStart => exact ⟨0, some ⟨g, 0, none⟩, sc, (m : Int) - 1, Nat.zero_le _, rfl, rfl, by simp, Lib.hid (by rw [Nat.sub_zero, ← Hm.out, List.drop_length, List.reverse_nil, List.append_nil]; exact hP.out), hB'⟩
      case round =>
        obtain ⟨z, ta, tc, iv, hz, rfl, rfl, hiv, hOz, hBz⟩ := hrel
        have hWz := Hw.out.trans (hBz.out.mono Hw.out.size)
        have HL : Hid ((q.reverse ++ (ya.drop (m - z)).reverse).length = qn + z) := by show _ = _; rw [List.length_append, List.length_reverse, List.length_reverse, List.length_drop, Hm.out, Hqn.out]; omega
        by_cases hzm : z < m
        · obtain ⟨e, rfl⟩ : ∃ e : Nat, iv = (e : Int) := ⟨m - 1 - z, by omega⟩
          have hem : e < m := by omega
          have hez : e + z + 1 = m := by omega
          have d0 : decide (0 ≤ (e : Int)) = true := by simp
          obtain ⟨t, ht⟩ := get_some Hm.out hem
          obtain ⟨b2, off2, x2, rfl, hb2, hx2l, ⟨rfl, hwf⟩, hx2⟩ := HsA.out.at_ ht
          have t0 : wr.cell? ⟨b2, off2 + e, none⟩ = some (.int .i64 t) := (hWz.cell (p := ⟨b2, off2 + e, none⟩) hb2).trans (by have := hx2 0 _ rfl; simpa using this)
          have h3z : wr.cell? ⟨b, off + k * 4 + 3, none⟩ = _ := (hWz.cell hbB).trans H3.out
          have hwz2 := hBz.out.size
          have Hwf := Lib.hid hwf
          have HE : Hid (q.reverse ++ (ya.drop (m - z)).reverse ++ [t] = q.reverse ++ (ya.drop (m - (z + 1))).reverse) := by
            show _ = _
            have : ya.drop (m - (z + 1)) = t :: ya.drop (m - z) := by
              rw [show m - (z + 1) = e by omega, show m - z = e + 1 by omega, List.drop_eq_getElem_cons (by rw [Hm.out]; exact hem), (List.getElem?_eq_some_iff.1 ht).2]
            rw [this, List.reverse_cons, List.append_assoc]
          clear hx2 hx2l ht hWz hwf hiv
          go_wp2_with (first
            | (at_builtin
               go_must (refine wpList_append_list rfl (.tmp 55) (.tmp 64) _ rfl w.heap.size _ 3 j _ 1 8 Try.underlying66 I.out.1 I.out.2.1 I.out.2.2.1 I.out.2.2.2 rfl (by omega) (R := IsInt) (l := q.reverse ++ (ya.drop (m - z)).reverse) (m := [t]) (.slice ta (qn + z) tc) rfl (by exact hOz.out.alloc _) (some ⟨wr.heap.size, 0, none⟩) 1 1 rfl (by exact SlR.new1 rfl rfl ⟨rfl, Hwf.out⟩) (qn + z + 1) (by rw [HL.out]) IsInt.one (by rw [HL.out]; unfold maxLen; omega) (by rw [HL.out]; omega) (by simp; omega) ?_)
               intro xa xc w9 hown hgr
               rw [HE.out] at hown
               have O9 := Lib.hid hown
               have B9 : Hid (Below w.heap.size w w9) := Lib.hid ((hBz.out.alloc hwz2 _).trans (below_of_grown (hOz.out.alloc _) (by simp; omega) hgr))
               clear hown hgr))
          go_roundw
          case rel => exact ⟨z + 1, xa, xc, (e : Int) - 1, by omega, rfl, rfl, by omega, O9, B9⟩
          case measure => first | (simp [intOf]; done) | (simp [intOf]; omega)
        · obtain rfl : m = z := by omega
          obtain rfl : iv = -1 := by omega
          have ht2 : treeS l [0] 0 = treeS l (ya ++ q) (k + 1) := hT.out
          have HT2 := Lib.hid ht2
          have hO9 : Hid (Own1 wr w.heap.size 3 1 IsInt (.slice ta (qn + m) tc) (ya ++ q).reverse) := Lib.hid (by have := hOz.out; rw [Nat.sub_self, List.drop_zero, ← List.reverse_append] at this; exact this)
          have hln : (ya ++ q).length = qn + m := by rw [List.length_append, Hm.out, Hqn.out, Nat.add_comm]
          have HLn := Lib.hid hln
          clear hln ht2 hT hWz hOz HL
          go_wp2_with fail
          go_roundw
          case rel => exact ⟨ya ++ q, k + 1, ta, tc, by rw [HLn.out], by go_num, by omega, by rw [HLn.out]; omega, by rw [HLn.out]; exact hO9, hBz, HT2⟩
          case measure => simp [intOf]; omega
end Go.Proofs.Ytdhljfblkidohaa
