/- modules: the names are taken, each with its number. -/
import Derived.Test.YtikplcpghohklaaGreatMAlone
import Derived.Test.YtikplcpghohklaaGreatTree
import Derived.Maps.Own
import Derived.Maps.OwnOps
import Derived.Maps.Views
namespace Go.Proofs.YtikplcpghohklaaGreat
set_option linter.unusedSimpArgs false
set_option linter.unusedVariables false
open Go.RowKit

abbrev strKey (s : ByteArray) : Lit := .string s.data.toList
theorem strKey_ok (s : ByteArray) : WideAt.IsKeyLit (strKey s) := trivial
theorem strKey_ne {s t : ByteArray} (h : s ≠ t) : strKey s ≠ strKey t := by
  intro e
  injection e with e
  apply h
  obtain ⟨⟨x⟩⟩ := s
  obtain ⟨⟨y⟩⟩ := t
  simp at e
  rw [e]
theorem law_str : Maps.Keyed Tryz.prog 9 := Maps.string_keyed Tryz.underlying9
theorem zero_int (w : World) : (zeroValue 3).run Tryz.prog w = .ok (.int .i64 0) w := by kernel_rfl
/-- the names of the first j, each with its number -/
def AtM (W : World) (bm j : Nat) (ls : List Language) : Prop := ∃ D : DataW Unit, Maps.IsMap D ∧ W.ownsMap Tryz.prog 9 (plainElem Tryz.prog 3) bm j D ∧
  (∀ s, Maps.has D (strKey s) = (ls.take j).any (fun l => decide (l.name = s))) ∧ (∀ s, (ls.take j).any (fun l => decide (l.name = s)) = true → ∀ z, D.atKey (strKey s) z = .lit (.int .i64 (findN ls s)))
theorem AtM.kept {W W' : World} {bm j : Nat} {ls : List Language} {row : Option Nat} (h : AtM W bm j ls) (hg : W.grownBy W' row) (hne : some bm ≠ row) : AtM W' bm j ls := by
  obtain ⟨D, h1, h2, h3⟩ := h
  exact ⟨D, h1, h2.kept hg hne, h3⟩
theorem find_here {ls : List Language} {k : Nat} {l : Language} (hd : ls[k]? = some l) (hno : (ls.take k).any (fun x => decide (x.name = l.name)) = false) : findN ls l.name = k := by
  refine firstAt_here hd (by simp) fun i d hi hid => ?_
  rw [List.any_eq_false] at hno
  have := hno d (List.mem_iff_getElem?.2 ⟨i, by rw [List.getElem?_take_of_lt hi]; exact hid⟩)
  simpa using this
theorem find_before {ls : List Language} {k : Nat} {s : ByteArray} (h : (ls.take k).any (fun x => decide (x.name = s)) = true) : findN ls s < k := by
  rw [List.any_eq_true] at h
  obtain ⟨d, hm, hp⟩ := h
  obtain ⟨i, hi⟩ := List.mem_iff_getElem?.1 hm
  have hik : i < k := by have := (List.getElem?_eq_some_iff.1 hi).1; rw [List.length_take] at this; omega
  rw [List.getElem?_take_of_lt hik] at hi
  unfold findN firstAt
  cases h : ls.findIdx? (fun x : Language => decide (x.name = s)) with
  | none => simp only; omega
  | some i0 =>
    obtain ⟨h0, _, h2⟩ := List.findIdx?_eq_some_iff_getElem.1 h
    simp only
    rcases Nat.lt_or_ge i i0 with hlt | hge
    · have := h2 i hlt
      rw [(List.getElem?_eq_some_iff.1 hi).2] at this
      exact absurd hp (by simpa using this)
    · omega
theorem AtM.step {W : World} {bm k : Nat} {ls : List Language} {l : Language} (hd : ls[k]? = some l) (hno : (ls.take k).any (fun x => decide (x.name = l.name)) = false) {D : DataW Unit} (h1 : Maps.IsMap D)
    (h3 : ∀ s, Maps.has D (strKey s) = (ls.take k).any (fun l => decide (l.name = s))) (h4 : ∀ s, (ls.take k).any (fun l => decide (l.name = s)) = true → ∀ z, D.atKey (strKey s) z = .lit (.int .i64 (findN ls s)))
    (h2 : W.ownsMap Tryz.prog 9 (plainElem Tryz.prog 3) bm (k + 1) (D.put (strKey l.name) (.lit (.int .i64 (k : Int))))) : AtM W bm (k + 1) ls := by
  have hf := find_here hd hno
  have ht : ls.take (k + 1) = ls.take k ++ [l] := by rw [List.take_add_one, hd]; rfl
  refine ⟨_, h1.put _ _, h2, fun s => ?_, fun s hs z => ?_⟩
  · rw [ht, List.any_append]
    by_cases e : l.name = s
    · subst e
      rw [Maps.has_put_same h1 (strKey_ok _)]
      simp
    · rw [Maps.has_put_other (strKey_ne (fun h => e h.symm)), h3]
      simp [e]
  · by_cases e : l.name = s
    · subst e
      rw [Maps.atKey_put_same h1 (strKey_ok _), hf]
    · rw [Maps.atKey_put_other (strKey_ne (fun h => e h.symm))]
      refine h4 s ?_ z
      rw [ht, List.any_append] at hs
      simpa [e] using hs
theorem AtM.start {W : World} {bm : Nat} (ls : List Language) (h : W.ownsMap Tryz.prog 9 (plainElem (H := Unit) Tryz.prog 3) bm 0 (.map [])) : AtM W bm 0 ls :=
  ⟨.map [], Maps.isMap_empty, h, fun s => by rw [List.take_zero]; rfl, fun s hs => by rw [List.take_zero] at hs; cases hs⟩
theorem set_grown (W : World) (p : Addr) (u : Value) : W.grownBy (W.setCell p u) (some p.block) := ⟨rfl, rfl, rfl, by simp [World.setCell], fun g hg hne => Below.heap_setCell _ _ _ _ (fun e => hne (by rw [e]))⟩
theorem grown_set_new {w W : World} {row : Option Nat} (h : w.grownBy W row) {p : Addr} (hp : w.heap.size ≤ p.block) (u : Value) : w.grownBy (W.setCell p u) row :=
  ⟨h.os, h.tape, h.output, by simp [World.setCell]; exact h.size, fun g hg hne => (Below.heap_setCell _ _ _ _ (by omega)).trans (h.block g hg hne)⟩
theorem grown_drew (W : World) (row : Option Nat) : W.grownBy W.drew row := ⟨rfl, rfl, rfl, Nat.le_refl _, fun _ _ _ => rfl⟩
/-- what there was stays but for one block, and the box of the answer is there -/
structure NamK (w : World) (bm : Nat) (W : World) : Prop where
  low : w.grownBy W (some bm)
  fb : Blk W w.heap.size 28 #[.int .i64 0, .int .i64 0, .int .i64 0, .int .i64 0]
theorem NamK.step {w : World} {bm : Nat} {W W' : World} (h : NamK w bm W) (hb : bm < w.heap.size) (g : W.grownBy W' (some bm)) : NamK w bm W' := ⟨grown_trans h.low g, h.fb.grown g (by simp; omega)⟩

set_option maxRecDepth 100000 in
set_option maxHeartbeats 8000000 in
theorem m_named {ls : List Language} {v : Value} (p bm : Nat) (w w0 : World) (hs : LsR w0 w0.heap.size v ls) (hw : Below w0.heap.size w0 w) (hle : ls.length ≤ 128) (hp0 : w.cell? ⟨p, 0, none⟩ = some v) (hp1 : w.cell? ⟨p, 1, none⟩ = some (.map (some bm)))
    (hb0 : w0.heap.size ≤ bm) (hbp : bm ≠ p) (hm : w.ownsMap Tryz.prog 9 (plainElem (H := Unit) Tryz.prog 3) bm 0 (.map [])) :
    Calls Tryz.prog 59 #[.pointer (some ⟨p, 0, none⟩)] w fun e w' => e = .returned (fltO (firstF (namedF ls) 0 ls)) ∧ w.grownBy w' (some bm) ∧ (firstF (namedF ls) 0 ls = none → AtM w' bm ls.length ls) := by
  obtain ⟨a, c, rfl⟩ : ∃ a c, v = .slice a ls.length c := by obtain ⟨a, c, h, _⟩ := hs.form; exact ⟨a, c, h⟩
  have hpl : p < w.heap.size := cell_lt hp0
  have hbl := hm.lt
  obtain ⟨n, hn⟩ : ∃ n, ls.length = n := ⟨_, rfl⟩
  rw [hn] at hs hp0 hle ⊢
  have Hn := Lib.hid hn
  have Hs := Lib.hid hs
  have Hw := Lib.hid hw
  have HP1 := Lib.hid hp1
  have hn63 : n ≤ 9223372036854775807 := by omega
  have K0 : Hid (NamK w bm (w.alloc (.cells #[.int .i64 0, .int .i64 0, .int .i64 0, .int .i64 0] 28))) := Lib.hid ⟨World.grownBy_alloc w _ _, Blk.new w _ _⟩
  have A0 : Hid (AtM (w.alloc (.cells #[.int .i64 0, .int .i64 0, .int .i64 0, .int .i64 0] 28)) bm 0 ls) := Lib.hid (AtM.start ls (hm.alloc _))
  clear hs hw hn hm hp1
  go_enter Tryz.func59, Tryz.ntmps59
  go_wp2_with fail
  go_loopw [3, 4, 5, 6, 12] (fun _ _ _ _ j wr => ∃ k : Nat, k ≤ n ∧ j = .int .i64 (k : Int) ∧ Hid (NamK w bm wr) ∧ Hid (AtM wr bm k ls) ∧ Hid (firstF (namedF ls) 0 ls = firstF (namedF ls) k (ls.drop k))) (fun _ _ _ _ j _ => n - (intOf j).toNat)
  case atStart => exact ⟨0, Nat.zero_le _, rfl, K0, A0, Lib.hid (by rw [List.drop_zero])⟩
  case round =>
    obtain ⟨k, hk, rfl, hK, hA, hf⟩ := hrel
    have hWr := Hw.out.grown hK.out.low Hw.out.size (fun g hg => by injection hg with hg; omega)
    have lw : w.heap.size < wr.heap.size := hK.out.fb.lt
    have r1 : wr.cell? ⟨p, 1, none⟩ = some (.map (some bm)) := cell_grown hK.out.low HP1.out (by simp; omega)
    by_cases hlt : k < n
    · obtain ⟨l, hd⟩ := get_some Hn.out hlt
      obtain ⟨b, off, x, rfl, hbB, hxl, ⟨v1, v2, v3, v4, v5, v6, rfl, s1, s2, s3, s4, s5, s6, _, onm, _⟩, hx⟩ := (Hs.out.below hWr).at_ hd
      obtain ⟨a1, n1, c1, rfl⟩ := s1.form'
      obtain ⟨a2, n2, c2, rfl⟩ := s2.form'
      obtain ⟨a3, n3, c3, rfl⟩ := s3.form'
      obtain ⟨a4, n4, c4, rfl⟩ := s4.form'
      obtain ⟨a5, n5, c5, rfl⟩ := s5.form'
      obtain ⟨a6, n6, c6, rfl⟩ := s6.form'
      have x0 := hx 0 _ rfl
      have x1 := hx 1 _ rfl
      have x2 := hx 2 _ rfl
      have x3 := hx 3 _ rfl
      have x4 := hx 4 _ rfl
      have x5 := hx 5 _ rfl
      have x6 := hx 6 _ rfl
      have x7 := hx 7 _ rfl
      simp only [Nat.add_zero] at x0
      have hst := firstF_step (f := namedF ls) hd
      rw [← hf.out] at hst
      have Hst := Lib.hid hst
      have Hd := Lib.hid hd
      have HK := hK
      have hkey : keyOf Tryz.prog 9 (.string l.name) = some (strKey l.name) := WideMaps.keyOf_string_mk Tryz.underlying9 onm
      have Hkey := Lib.hid hkey
      obtain ⟨D, hD1, hD2, hD3, hD4⟩ := hA.out
      have HD2 := Lib.hid hD2
      have HD1 := Lib.hid hD1
      have HD3 := Lib.hid hD3
      have HD4 := Lib.hid hD4
      clear hd hx hxl s1 s2 s3 s4 s5 s6 hWr hK hf hst hA hD1 hD2 hD3 hD4 hkey
      go_wp2_with fail
      generalize hW2 : World.alloc wr _ = W2
      have K2 : Hid (NamK w bm W2) := Lib.hid (by rw [← hW2]; exact HK.out.step hbl (World.grownBy_alloc _ _ _))
      have hB2 : Below wr.heap.size wr W2 := by rw [← hW2]; exact (Below.refl _ _).alloc (Nat.le_refl _) _
      have B2 : Blk W2 wr.heap.size 39 #[.string l.name, .int .i64 l.version, .slice a1 n1 c1, .slice a2 n2 c2, .slice a3 n3 c3, .slice a4 n4 c4, .slice a5 n5 c5, .slice a6 n6 c6] := by rw [← hW2]; exact Blk.new wr _ _
      have M2 : Hid (W2.ownsMap Tryz.prog 9 (plainElem (H := Unit) Tryz.prog 3) bm k D) := Lib.hid (by rw [← hW2]; exact HD2.out.alloc _)
      clear hW2
      have q1 : W2.cell? ⟨p, 1, none⟩ = some (.map (some bm)) := (hB2.cell (p := ⟨p, 1, none⟩) (cell_lt r1)).trans r1
      have q2 : W2.cell? ⟨wr.heap.size, 0, none⟩ = some (.string l.name) := B2.cell rfl
      have lw2 : w.heap.size < W2.heap.size := K2.out.fb.lt
      clear hB2 B2
      rcases hany : (ls.take k).any (fun x => decide (x.name = l.name)) with _ | _
      · have hl0 : ∀ q, (Instr.lookup 76 (.map (some bm)) (.string l.name) true).run Tryz.prog (W2.drewN q) = .ok (.tuple #[.int .i64 0, .bool false]) (W2.drewN q) := by
          intro q
          have M3 : (W2.drewN q).ownsMap Tryz.prog 9 (plainElem (H := Unit) Tryz.prog 3) bm k D := M2.out
          obtain ⟨vv, ps, hrun, hv⟩ := M3.look_ok law_str Tryz.underlying76 (zero_int _) (plainElem_int Tryz.underlying3 (by decide)) Hkey.out
          obtain ⟨cc, rfl, hcc, _⟩ := plainElem_int_inv Tryz.underlying3 hv
          rw [Maps.atKey_of_not_has (by rw [HD3.out]; exact hany)] at hcc
          injection hcc with hcc _
          injection hcc with hcc
          injection hcc with _ hcc
          rw [HD3.out, hany, ← hcc] at hrun
          exact hrun
        have HG := Lib.hid (show firstF (namedF ls) 0 ls = firstF (namedF ls) (k + 1) (ls.drop (k + 1)) by
          rw [Hst.out]
          unfold namedF
          rw [find_here Hd.out hany, if_neg (by omega)])
        have Hany := Lib.hid hany
        clear hany Hst
        go_wp2_with fail
        go_quiet (fail)
        go_wp2_with fail
        generalize hW3 : World.drewN W2 _ = W3
        have hq3 : Quiet W2 W3 := ⟨_, hW3.symm⟩
        clear hW3 hl0
        have hB3 := hq3.below W2.heap.size
        have K3 : Hid (NamK w bm W3) := Lib.hid (K2.out.step hbl (grown_of_below _ hB3))
        have M3 : Hid (W3.ownsMap Tryz.prog 9 (plainElem (H := Unit) Tryz.prog 3) bm k D) := Lib.hid (M2.out.kept (grown_of_below none hB3) (by simp))
        have u1 : W3.cell? ⟨p, 1, none⟩ = some (.map (some bm)) := (hB3.cell (p := ⟨p, 1, none⟩) (cell_lt q1)).trans q1
        have u2 : W3.cell? ⟨wr.heap.size, 0, none⟩ = some (.string l.name) := (hB3.cell (p := ⟨wr.heap.size, 0, none⟩) (cell_lt q2)).trans q2
        clear q1 q2 hq3 hB3 M2 K2 lw2
        go_still_tail 7, mixed
        change wpList _ _ _ _ _ W3.drew
        go_wp2_with (first
          | (at_mapUpdate
             refine wpList_mapUpdate_own _ rfl _ _ _ 76 rfl 9 3 law_str Tryz.underlying76 _ bm k _ rfl (by exact M3.out) (by unfold maxLen; omega) _ _ _ rfl rfl Hkey.out _ [] (plainElem_int Tryz.underlying3 (nat_wf (by omega))) ?_
             intro w9 hown hgr
             have K9 : Hid (NamK w bm w9) := Lib.hid (K3.out.step hbl (grown_trans (grown_drew W3 _) hgr))
             have A9 : Hid (AtM w9 bm (k + 1) ls) := Lib.hid (AtM.step Hd.out Hany.out HD1.out HD3.out HD4.out hown)
             clear hown hgr))
        go_roundw
        case rel => exact ⟨k + 1, by omega, by go_num, K9, A9, HG⟩
        case measure => simp [intOf]; omega
      · have hl0 : ∀ q, (Instr.lookup 76 (.map (some bm)) (.string l.name) true).run Tryz.prog (W2.drewN q) = .ok (.tuple #[.int .i64 (findN ls l.name), .bool true]) (W2.drewN q) := by
          intro q
          have M3 : (W2.drewN q).ownsMap Tryz.prog 9 (plainElem (H := Unit) Tryz.prog 3) bm k D := M2.out
          obtain ⟨vv, ps, hrun, hv⟩ := M3.look_ok law_str Tryz.underlying76 (zero_int _) (plainElem_int Tryz.underlying3 (by decide)) Hkey.out
          obtain ⟨cc, rfl, hcc, _⟩ := plainElem_int_inv Tryz.underlying3 hv
          rw [HD4.out _ hany] at hcc
          injection hcc with hcc _
          injection hcc with hcc
          injection hcc with _ hcc
          rw [HD3.out, hany, ← hcc] at hrun
          exact hrun
        have HF9 : Hid (firstF (namedF ls) 0 ls = some ⟨10 * k, 0, 0, 40⟩) := by
          show _ = _
          rw [Hst.out]
          unfold namedF
          rw [if_pos (find_before hany)]
        have HZ := Lib.hid (show fltO (firstF (namedF ls) 0 ls) = fltR ⟨10 * k, 0, 0, 40⟩ by rw [HF9.out]; rfl)
        have HPl := Lib.hid (place_small (n := k) (l := 0) (by omega) (by omega) (by omega))
        have tokP : True := trivial
        clear hany Hst
        go_wp2_with fail
        go_quiet (fail)
        go_wp2_with (first | (go_at_call 37; have _t := tokP; refine (m_fault _ _ _ _ _ HPl.out _).mono ?_; rintro en wf ⟨rfl, bf⟩; have CF : Hid (NamK w bm wf) := Lib.hid (K2.out.step hbl (grown_trans (grown_of_below _ ((Quiet.refl W2).drewN _ |>.below _)) (grown_of_below _ bf))); have z0 : wf.cell? ⟨w.heap.size, 0, none⟩ = some (.int .i64 0) := CF.out.fb.cell rfl; have z1 : wf.cell? ⟨w.heap.size, 1, none⟩ = some (.int .i64 0) := CF.out.fb.cell rfl; have z2 : wf.cell? ⟨w.heap.size, 2, none⟩ = some (.int .i64 0) := CF.out.fb.cell rfl; have z3 : wf.cell? ⟨w.heap.size, 3, none⟩ = some (.int .i64 0) := CF.out.fb.cell rfl; have f0 := CF.out.fb.frozen 0; have f1 := CF.out.fb.frozen 1; have f2 := CF.out.fb.frozen 2; have f3 := CF.out.fb.frozen 3; clear tokP _t))
        have lf := CF.out.fb.lt
        refine bodyPost_ret (v := .agg #[.int .i64 (10 * (k : Int) + 0), .int .i64 (0), .int .i64 (0), .int .i64 (40)]) (by simp [results, Tryz.results59, go_sem, z0, z1, z2, z3]) rfl ?_
        refine ⟨?_, (grown_set_new (grown_set_new (grown_set_new (grown_set_new CF.out.low (p := ⟨w.heap.size, 0, none⟩) (Nat.le_refl _) _) (p := ⟨w.heap.size, 1, none⟩) (Nat.le_refl _) _) (p := ⟨w.heap.size, 2, none⟩) (Nat.le_refl _) _) (p := ⟨w.heap.size, 3, none⟩) (Nat.le_refl _) _), ?_⟩
        · rw [HZ.out]
          all_goals (show Ending.returned _ = Ending.returned _)
          all_goals first | rfl | (congr 2 <;> (first | rfl | (push_cast; rfl) | (push_cast; omega)))
        · intro h9
          rw [HF9.out] at h9
          cases h9
    · obtain rfl : n = k := by omega
      have hno : firstF (namedF ls) 0 ls = none := by rw [hf.out]; exact firstF_end (by rw [Hn.out]; exact Nat.le_refl _)
      have HZ := Lib.hid (show fltO (firstF (namedF ls) 0 ls) = fltV 0 0 0 0 by rw [hno]; rfl)
      have CF := hK
      have HA9 := hA
      have z0 : wr.cell? ⟨w.heap.size, 0, none⟩ = some (.int .i64 0) := CF.out.fb.cell rfl; have z1 : wr.cell? ⟨w.heap.size, 1, none⟩ = some (.int .i64 0) := CF.out.fb.cell rfl; have z2 : wr.cell? ⟨w.heap.size, 2, none⟩ = some (.int .i64 0) := CF.out.fb.cell rfl; have z3 : wr.cell? ⟨w.heap.size, 3, none⟩ = some (.int .i64 0) := CF.out.fb.cell rfl; have f0 := CF.out.fb.frozen 0; have f1 := CF.out.fb.frozen 1; have f2 := CF.out.fb.frozen 2; have f3 := CF.out.fb.frozen 3
      clear hlt hf hK hWr hA hno
      go_wp2_with fail
      have lf := CF.out.fb.lt
      refine bodyPost_ret (v := .agg #[.int .i64 (0), .int .i64 (0), .int .i64 (0), .int .i64 (0)]) (by simp [results, Tryz.results59, go_sem, z0, z1, z2, z3]) rfl ?_
      refine ⟨?_, (grown_set_new (grown_set_new (grown_set_new (grown_set_new CF.out.low (p := ⟨w.heap.size, 0, none⟩) (Nat.le_refl _) _) (p := ⟨w.heap.size, 1, none⟩) (Nat.le_refl _) _) (p := ⟨w.heap.size, 2, none⟩) (Nat.le_refl _) _) (p := ⟨w.heap.size, 3, none⟩) (Nat.le_refl _) _), ?_⟩
      · rw [HZ.out]
        all_goals (show Ending.returned _ = Ending.returned _)
        all_goals first | rfl | (congr 2 <;> (first | rfl | (push_cast; rfl) | (push_cast; omega)))
      · intro _
        exact (((HA9.out.kept (set_grown _ ⟨w.heap.size, 0, none⟩ _) (by simp; omega)).kept (set_grown _ ⟨w.heap.size, 1, none⟩ _) (by simp; omega)).kept (set_grown _ ⟨w.heap.size, 2, none⟩ _) (by simp; omega)).kept (set_grown _ ⟨w.heap.size, 3, none⟩ _) (by simp; omega)
end Go.Proofs.YtikplcpghohklaaGreat
