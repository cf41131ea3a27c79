/- modules: whom each one uses, by numbers. -/
import Derived.Test.YtikplcpghohklaaGreatUsed0
import Derived.Test.YtikplcpghohklaaGreatMRinged
namespace Go.Proofs.YtikplcpghohklaaGreat
set_option linter.unusedSimpArgs false
set_option linter.unusedVariables false
open Go.RowKit

theorem grown_own {w W W' : World} {row r2 : Option Nat} (h : w.grownBy W row) (g : W.grownBy W' r2) (hr : ∀ j, r2 = some j → w.heap.size ≤ j) : w.grownBy W' row :=
  ⟨g.os.trans h.os, g.tape.trans h.tape, g.output.trans h.output, Nat.le_trans h.size g.size, fun j hj hne => (g.block j (Nat.lt_of_lt_of_le hj h.size) (fun e => by have := hr j e.symm; omega)).trans (h.block j hj hne)⟩

set_option maxRecDepth 100000 in
set_option maxHeartbeats 8000000 in
theorem m_used {ls : List Language} {v : Value} (p bm bu B0 : Nat) (w w0 : World) (hs : LsR w0 w0.heap.size v ls) (hw : Below w0.heap.size w0 w) (hle : ls.length ≤ 128) (hsh : ∀ l ∈ ls, l.uses.length ≤ 8)
    (hp0 : w.cell? ⟨p, 0, none⟩ = some v) (hp1 : w.cell? ⟨p, 1, none⟩ = some (.map (some bm))) (hp2 : w.cell? ⟨p, 2, none⟩ = some (.map (some bu)))
    (hb0 : w0.heap.size ≤ bu) (hbp : bu ≠ p) (hbm : bm ≠ bu) (hA : AtM w bm ls.length ls) (hm : w.ownsGroups Tryz.prog 3 B0 3 .i64 bu 0 (.map [] : DataW Unit)) :
    Calls Tryz.prog 60 #[.pointer (some ⟨p, 0, none⟩)] w fun e w' => e = .returned (fltO (firstF (usedF ls) 0 ls)) ∧ w.grownBy w' (some bu) ∧ (firstF (usedF ls) 0 ls = none → ∃ un, un ≤ 1024 ∧ UseM w' (w.heap.size + 1) bu un (fun j => ((webN ls)[j]?).getD [])) := by
  obtain ⟨a, c, rfl⟩ : ∃ a c, v = .slice a ls.length c := by obtain ⟨a, c, h, _⟩ := hs.form; exact ⟨a, c, h⟩
  obtain ⟨jI, hi, hz, hszI, hby⟩ := info_parts info_i
  have I := Lib.hid (And.intro hi (And.intro hz (And.intro hszI hby)))
  clear hi hz hszI hby
  have hpl : p < w.heap.size := cell_lt hp0
  have hbl : bu < w.heap.size := by obtain ⟨es, clock, hb, _⟩ := hm; exact (Array.getElem?_eq_some_iff.1 hb).1
  have HUm := Lib.hid (groups_rebase hm (base' := w.heap.size + 1) (by omega))
  have Hwl := Lib.hid (webN_len ls)
  have Hat := Lib.hid (fun (i : Nat) (l : Language) (h : ls[i]? = some l) => webN_at h)
  have Hsh := Lib.hid hsh
  have HAt := Lib.hid hA
  obtain ⟨n, hn⟩ : ∃ n, ls.length = n := ⟨_, rfl⟩
  rw [hn] at hp0 hle Hwl
  have Hn := Lib.hid hn
  have Hs := Lib.hid hs
  have Hw := Lib.hid hw
  have HP1 := Lib.hid hp1
  have HP2 := Lib.hid hp2
  have hn63 : n ≤ 9223372036854775807 := by omega
  have hsz := hw.size
  rw [hn] at hs
  have K0 : Hid (NamK w bu (w.alloc (.cells #[.int .i64 0, .int .i64 0, .int .i64 0, .int .i64 0] 28))) := Lib.hid ⟨World.grownBy_alloc w _ _, Blk.new w _ _⟩
  have U0 : Hid (UseM (w.alloc (.cells #[.int .i64 0, .int .i64 0, .int .i64 0, .int .i64 0] 28)) (w.heap.size + 1) bu 0 (usePart (webN ls) 0 0)) := Lib.hid ((UseM.start (HUm.out.kept (World.grownBy_alloc w _ none) (by simp) (HUm.out.rowsAbove (fun j h => by cases h)))).congr (usePart_start _))
  clear hs hw hn hm hp1 hp2 hA hsh HUm
  go_enter Tryz.func60, Tryz.ntmps60
  go_wp2_with fail
  go_loopw [3, 4, 5, 6, 7, 8, 14] (fun _ _ _ _ _ _ j wr => ∃ k un : Nat, k ≤ n ∧ un ≤ 8 * k ∧ j = .int .i64 (k : Int) ∧ Hid (NamK w bu wr) ∧ Hid (UseM wr (w.heap.size + 1) bu un (usePart (webN ls) k 0)) ∧ Hid (firstF (usedF ls) 0 ls = firstF (usedF ls) k (ls.drop k))) (fun _ _ _ _ _ _ j _ => n - (intOf j).toNat)
  case atStart => exact ⟨0, 0, Nat.zero_le _, Nat.zero_le _, rfl, K0, U0, Lib.hid (by rw [List.drop_zero])⟩
  case round =>
    obtain ⟨k, un, hk, hun, rfl, hK, hU, hf⟩ := hrel
    have hWr := Hw.out.grown hK.out.low Hw.out.size (fun g hg => by injection hg with hg; omega)
    have lw : w.heap.size < wr.heap.size := hK.out.fb.lt
    by_cases hlt : k < n
    · obtain ⟨l, hd⟩ := get_some Hn.out hlt
      obtain ⟨b, off, x, rfl, hbB, hxl, ⟨v1, v2, v3, v4, v5, v6, rfl, s1, s2, s3, s4, s5, s6, _, onm, _⟩, hx⟩ := Hs.out.at_ hd
      obtain ⟨m, hm⟩ : ∃ m, l.uses.length = m := ⟨_, rfl⟩
      obtain ⟨ua, uc, rfl⟩ : ∃ a c, v1 = .slice a m c := by obtain ⟨a, c, h, _⟩ := s1.form; exact ⟨a, c, by rw [h, hm]⟩
      have Hm := Lib.hid hm
      have Su := Lib.hid s1
      obtain ⟨a2, n2, c2, rfl⟩ := s2.form'
      obtain ⟨a3, n3, c3, rfl⟩ := s3.form'
      obtain ⟨a4, n4, c4, rfl⟩ := s4.form'
      obtain ⟨a5, n5, c5, rfl⟩ := s5.form'
      obtain ⟨a6, n6, c6, rfl⟩ := s6.form'
      have hx' : ∀ (j : Nat) (u : Value), _ → wr.cell? ⟨b, off + k * 8 + j, none⟩ = some u := fun j u hju => (hWr.cell (p := ⟨b, off + k * 8 + j, none⟩) hbB).trans (hx j u hju)
      have x0 := hx' 0 _ rfl
      have x1 := hx' 1 _ rfl
      have x2 := hx' 2 _ rfl
      have x3 := hx' 3 _ rfl
      have x4 := hx' 4 _ rfl
      have x5 := hx' 5 _ rfl
      have x6 := hx' 6 _ rfl
      have x7 := hx' 7 _ rfl
      simp only [Nat.add_zero] at x0
      have hst := firstF_step (f := usedF ls) hd
      rw [← hf.out] at hst
      have Hst := Lib.hid hst
      have Huf := Lib.hid (show usedF ls k l = firstF (usedG ls k) 0 l.uses from rfl)
      have hm8 : m ≤ 8 := by rw [← hm]; exact Hsh.out l (List.mem_iff_getElem?.2 ⟨k, hd⟩)
      obtain ⟨u, huu⟩ : ∃ u, (l.uses.map fun s => (findN ls s).toNat) = u := ⟨_, rfl⟩
      have Huu := Lib.hid huu
      have hul : u.length = m := by rw [← huu, List.length_map]; exact hm
      have Hul := Lib.hid hul
      have Hue := Lib.hid (show (webN ls)[k]? = some u by rw [← huu]; exact Hat.out k l hd)
      have hXB : Below wr.heap.size wr (wr.alloc (.cells #[.string l.name, .int .i64 l.version, .slice ua m uc, .slice a2 n2 c2, .slice a3 n3 c3, .slice a4 n4 c4, .slice a5 n5 c5, .slice a6 n6 c6] 39)) := (Below.refl _ _).alloc (Nat.le_refl _) _
      have K1 : Hid (NamK w bu (wr.alloc (.cells #[.string l.name, .int .i64 l.version, .slice ua m uc, .slice a2 n2 c2, .slice a3 n3 c3, .slice a4 n4 c4, .slice a5 n5 c5, .slice a6 n6 c6] 39))) := Lib.hid (hK.out.step hbl (grown_of_below _ hXB))
      have U1 : Hid (UseM (wr.alloc (.cells #[.string l.name, .int .i64 l.version, .slice ua m uc, .slice a2 n2 c2, .slice a3 n3 c3, .slice a4 n4 c4, .slice a5 n5 c5, .slice a6 n6 c6] 39)) (w.heap.size + 1) bu un (usePart (webN ls) k 0)) := Lib.hid (hU.out.kept (grown_of_below none hXB) (by simp) (fun j h => by cases h))
      clear hd hx hx' hxl hm s1 s2 s3 s4 s5 s6 onm hst huu hul hf hK hU hWr hXB
      go_wp2_with fail
      generalize hwo : World.alloc wr _ = wo
      rw [hwo] at K1 U1
      clear hwo
      go_hide hQ2
      go_loopw [5, 6, 7, 8, 22] (fun _ _ _ _ j wr => ∃ i un : Nat, i ≤ m ∧ un ≤ 8 * k + i ∧ j = .int .i64 (i : Int) ∧ Hid (NamK w bu wr) ∧ Hid (UseM wr (w.heap.size + 1) bu un (usePart (webN ls) k i)) ∧ Hid (firstF (usedG ls k) 0 l.uses = firstF (usedG ls k) i (l.uses.drop i))) (fun _ _ _ _ j _ => m - (intOf j).toNat)
      case atStart => exact ⟨0, un, Nat.zero_le _, by omega, rfl, K1, U1, Lib.hid (by rw [List.drop_zero])⟩
      case round =>
        clear K1 U1
        obtain ⟨i, un, hi, hun, rfl, hK, hU, hf⟩ := hrel
        have hWr := Hw.out.grown hK.out.low Hw.out.size (fun g hg => by injection hg with hg; omega)
        have lw : w.heap.size < wr.heap.size := hK.out.fb.lt
        by_cases him : i < m
        · obtain ⟨s, hsk⟩ := get_some Hm.out him
          obtain ⟨b3, off3, y3, rfl, hb3, hyl3, ⟨rfl, hss⟩, hy3⟩ := Su.out.at_ hsk
          have k0 : wr.cell? ⟨b3, off3 + i, none⟩ = some (.string s) := (hWr.cell (p := ⟨b3, off3 + i, none⟩) hb3).trans (by have := hy3 0 _ rfl; simpa using this)
          have r1 : wr.cell? ⟨p, 1, none⟩ = some (.map (some bm)) := cell_grown hK.out.low HP1.out (by simp; omega)
          have r2 : wr.cell? ⟨p, 2, none⟩ = some (.map (some bu)) := cell_grown hK.out.low HP2.out (by simp; omega)
          have hA := HAt.out.kept hK.out.low (by simp; omega)
          have hst := firstF_step (f := usedG ls k) hsk
          rw [← hf.out] at hst
          have Hst2 := Lib.hid hst
          have hkey : keyOf Tryz.prog 9 (.string s) = some (strKey s) := WideMaps.keyOf_string_mk Tryz.underlying9 hss
          obtain ⟨D, hD1, hD2, hD3, hD4⟩ := hA
          rw [List.take_of_length_le (by rw [Hn.out]; exact Nat.le_refl _)] at hD3 hD4
          obtain ⟨vv, ps, hrun, hv⟩ := hD2.look_ok law_str Tryz.underlying76 (zero_int _) (plainElem_int Tryz.underlying3 (by decide)) hkey
          obtain ⟨cc, rfl, hcc, _⟩ := plainElem_int_inv Tryz.underlying3 hv
          by_cases e0 : findN ls s < 0
          · have hany : (ls.any fun l => decide (l.name = s)) = false := by rw [findN_any]; simp; omega
            rw [Maps.atKey_of_not_has (by rw [hD3]; exact hany)] at hcc
            injection hcc with hcc _
            injection hcc with hcc
            injection hcc with _ hcc
            rw [hD3, hany, ← hcc] at hrun
            have HF9 : Hid (firstF (usedF ls) 0 ls = some ⟨10 * k + 1, i, 0, 240⟩) := by
              show _ = _
              rw [Hst.out, Huf.out, Hst2.out]
              unfold usedG
              rw [if_pos e0]
            have HZ := Lib.hid (show fltO (firstF (usedF ls) 0 ls) = fltR ⟨10 * k + 1, i, 0, 240⟩ by rw [HF9.out]; rfl)
            have HPl := Lib.hid (place_small (n := k) (l := 1) (by omega) (by omega) (by omega))
            have tokP : True := trivial
            have HK := hK
            clear hf hK hU hWr hst hD1 hD2 hD3 hD4 hkey hv hcc hss hsk hy3 hyl3 hany e0
            subst hQ2
            go_wp2_with (go_at_call 37; have _t := tokP; refine (m_fault _ _ _ _ _ HPl.out _).mono ?_; rintro en wf ⟨rfl, bf⟩; have CF : Hid (NamK w bu wf) := Lib.hid (HK.out.step hbl (grown_of_below _ bf)); have z0 : wf.cell? ⟨w.heap.size, 0, none⟩ = some (.int .i64 0) := CF.out.fb.cell rfl; have z1 : wf.cell? ⟨w.heap.size, 1, none⟩ = some (.int .i64 0) := CF.out.fb.cell rfl; have z2 : wf.cell? ⟨w.heap.size, 2, none⟩ = some (.int .i64 0) := CF.out.fb.cell rfl; have z3 : wf.cell? ⟨w.heap.size, 3, none⟩ = some (.int .i64 0) := CF.out.fb.cell rfl; have f0 := CF.out.fb.frozen 0; have f1 := CF.out.fb.frozen 1; have f2 := CF.out.fb.frozen 2; have f3 := CF.out.fb.frozen 3; clear tokP _t)

            have lf := CF.out.fb.lt
            refine bodyPost_ret (v := .agg #[.int .i64 (10 * (k : Int) + 1), .int .i64 (i), .int .i64 (0), .int .i64 (240)]) (by simp [results, Tryz.results60, go_sem, z0, z1, z2, z3]) rfl ?_
            refine ⟨?_, (grown_set_new (grown_set_new (grown_set_new (grown_set_new CF.out.low (p := ⟨w.heap.size, 0, none⟩) (Nat.le_refl _) _) (p := ⟨w.heap.size, 1, none⟩) (Nat.le_refl _) _) (p := ⟨w.heap.size, 2, none⟩) (Nat.le_refl _) _) (p := ⟨w.heap.size, 3, none⟩) (Nat.le_refl _) _), ?_⟩
            · rw [HZ.out]
              all_goals (show Ending.returned _ = Ending.returned _)
              all_goals first | rfl | (congr 2 <;> (first | rfl | (push_cast; rfl) | (push_cast; omega)))
            · intro h9
              rw [HF9.out] at h9
              cases h9
          · have hany : (ls.any fun l => decide (l.name = s)) = true := by rw [findN_any]; simp; omega
            rw [hD4 _ hany] at hcc
            injection hcc with hcc _
            injection hcc with hcc
            injection hcc with _ hcc
            rw [hD3, hany, ← hcc] at hrun
            obtain ⟨q, hq⟩ : ∃ q : Nat, findN ls s = (q : Int) := ⟨(findN ls s).toNat, by omega⟩
            rw [hq] at hrun
            have HG := Lib.hid (show firstF (usedG ls k) 0 l.uses = firstF (usedG ls k) (i + 1) (l.uses.drop (i + 1)) by
              rw [hst]
              unfold usedG
              rw [if_neg e0])
            have hui : u[i]? = some q := by rw [← Huu.out, List.getElem?_map, hsk]; simp [hq]
            have Hui := Lib.hid hui
            have hqn : (q : Int) < (ls.length : Int) := by rw [← hq]; exact findN_lt ls s
            rw [Hn.out] at hqn
            have hus := hU.out.look (by unfold maxLen; omega) k (by omega)
            obtain ⟨E, uv, hE1, hE3, hlk, hoi, hgl, hback⟩ := hus
            have hl1 := hlk wr.drew rfl
            have hl2 := hlk (wr.alloc (.cells #[.int .i64 (q : Int)] 3)).drew (Below.heap_alloc wr (.cells #[.int .i64 (q : Int)] 3) bu hU.out.lt.1)
            have HE1 := Lib.hid hE1
            have HE3 := Lib.hid hE3
            have Hoi := Lib.hid hoi
            have Hback := Lib.hid hback
            have HK := hK
            have hlb := hU.out.lt
            have Hwf := Lib.hid (show (Lit.int .i64 (q : Int)).wf = true from nat_wf (by omega))
            have tokL : True := trivial
            clear hf hK hU hWr hst hD1 hD2 hD3 hD4 hkey hv hcc hss hsk hy3 hyl3 hany e0 hE1 hE3 hlk hoi hback hui hq
            go_wp2_with fail
            go_region_held3 (fun W => W.cell? ⟨p, 2, none⟩ = some (.map (some bu)))
              (first
                | go_keep
                | exact cell_grown (World.grownBy_alloc _ _ _) r2 (by simp)
                | (have _k := KW; exact KW)
                | (have _k := KA; exact KA)
                | fail)
              (first
                | (have _t := tokL
                   go_must (refine step_append_own_at rfl (.tmp 51) (.tmp 53) 25 rfl (w.heap.size + 1) 3 jI _ 1 8 Tryz.underlying25 I.out.1 I.out.2.1 I.out.2.2.1 I.out.2.2.2 rfl (by omega) uv _ _ (by rfl) (by exact (Hoi.out.1.alloc _)) ⟨wr.heap.size, 0, none⟩ 1 1 [.int .i64 (q : Int)] (by rfl) rfl (by exact cell_one_new _ _ _) (ints_oneCell .i64 [(q : Int)]) (by simp only [List.length_map]; unfold maxLen; omega) (by simp only [List.length_map]; omega) (by simp; omega) ?_)
                   intro v9 w9 hown9 hgr9 hloc9
                   have hall : wr.grownBy w9 uv.ownBlock := grown_trans (World.grownBy_alloc wr _ _) (grown_trans (grown_drew _ _) hgr9)
                   have hbr : ∀ g, uv.ownBlock = some g → w.heap.size + 1 ≤ g := fun g hg => (Hoi.out.1.lt g hg).1
                   have hi9 := Hoi.out.appended (by simpa using hown9) Hwf.out
                   obtain ⟨w10, hrun10, ho10, hg10⟩ := Hback.out w9 v9 _ hall hi9 (by simp; omega) (hloc9.imp id (fun h => ⟨_, h, by simp⟩))
                   have KA : w9.cell? ⟨p, 2, none⟩ = some (.map (some bu)) := cell_grown hall r2 (fun e => by have := hbr p e.symm; omega)
                   have KW : w10.cell? ⟨p, 2, none⟩ = some (.map (some bu)) := cell_grown hg10 KA (by simp; omega)
                   have H10 := Lib.hid (And.intro hall (And.intro hbr (And.intro hi9 (And.intro ho10 hg10))))
                   clear tokL _t hall hbr hi9 ho10 hg10 hown9 hgr9 hloc9)
                | fail)
            all_goals (
              obtain ⟨hall, hbr, hi9, ho10, hg10⟩ := H10.out
              have em : (usePart (webN ls) k i k).map (fun (n : Nat) => (n : Int)) ++ [(q : Int)] = (usePart (webN ls) k i k ++ [q]).map fun (n : Nat) => (n : Int) := by simp
              rw [em] at hi9 ho10
              have U10 : Hid (UseM w10 (w.heap.size + 1) bu (un + 1) (usePart (webN ls) k (i + 1))) := Lib.hid ((UseM.more HE1.out HE3.out hi9 ho10).congr (usePart_more Hue.out Hui.out))
              have K10 : Hid (NamK w bu w10) := Lib.hid (NamK.step ⟨grown_own HK.out.low hall (fun j hj => by have := hbr j hj; omega), HK.out.fb.grown hall (fun e => by have := hbr _ e.symm; omega)⟩ hbl hg10)
              clear hall hbr hi9 ho10 hg10 em
              go_wp2_with fail
              go_roundw
              case rel => exact ⟨i + 1, un + 1, by omega, by omega, by go_num, K10, U10, HG⟩
              case measure => simp [intOf]; omega)
        · obtain rfl : m = i := by omega
          have HG := Lib.hid (show firstF (usedF ls) 0 ls = firstF (usedF ls) (k + 1) (ls.drop (k + 1)) by rw [Hst.out, Huf.out, hf.out, firstF_end (by rw [Hm.out]; exact Nat.le_refl _)])
          have HK := hK
          have HU : Hid (UseM wr (w.heap.size + 1) bu un (usePart (webN ls) (k + 1) 0)) := Lib.hid (hU.out.congr (usePart_next Hue.out (by rw [Hul.out]; exact Nat.le_refl _)))
          clear him hWr hK hU hf
          subst hQ2
          go_wp2_with fail
          go_roundw
          case rel => exact ⟨k + 1, un, by omega, by omega, by go_num, HK, HU, HG⟩
          case measure => simp [intOf]; omega
    · obtain rfl : n = k := by omega
      have hno : firstF (usedF ls) 0 ls = none := by rw [hf.out]; exact firstF_end (by rw [Hn.out]; exact Nat.le_refl _)
      have HZ := Lib.hid (show fltO (firstF (usedF ls) 0 ls) = fltV 0 0 0 0 by rw [hno]; rfl)
      have CF := hK
      have HU9 : Hid (UseM wr (w.heap.size + 1) bu un fun j => ((webN ls)[j]?).getD []) := Lib.hid (hU.out.congr (usePart_end (by rw [Hwl.out]; exact Nat.le_refl _)))
      have z0 : wr.cell? ⟨w.heap.size, 0, none⟩ = some (.int .i64 0) := CF.out.fb.cell rfl; have z1 : wr.cell? ⟨w.heap.size, 1, none⟩ = some (.int .i64 0) := CF.out.fb.cell rfl; have z2 : wr.cell? ⟨w.heap.size, 2, none⟩ = some (.int .i64 0) := CF.out.fb.cell rfl; have z3 : wr.cell? ⟨w.heap.size, 3, none⟩ = some (.int .i64 0) := CF.out.fb.cell rfl; have f0 := CF.out.fb.frozen 0; have f1 := CF.out.fb.frozen 1; have f2 := CF.out.fb.frozen 2; have f3 := CF.out.fb.frozen 3
      clear hlt hf hK hWr hU hno
      go_wp2_with fail

      have lf := CF.out.fb.lt
      refine bodyPost_ret (v := .agg #[.int .i64 (0), .int .i64 (0), .int .i64 (0), .int .i64 (0)]) (by simp [results, Tryz.results60, go_sem, z0, z1, z2, z3]) rfl ?_
      refine ⟨?_, (grown_set_new (grown_set_new (grown_set_new (grown_set_new CF.out.low (p := ⟨w.heap.size, 0, none⟩) (Nat.le_refl _) _) (p := ⟨w.heap.size, 1, none⟩) (Nat.le_refl _) _) (p := ⟨w.heap.size, 2, none⟩) (Nat.le_refl _) _) (p := ⟨w.heap.size, 3, none⟩) (Nat.le_refl _) _), ?_⟩
      · rw [HZ.out]
        all_goals (show Ending.returned _ = Ending.returned _)
        all_goals first | rfl | (congr 2 <;> (first | rfl | (push_cast; rfl) | (push_cast; omega)))
      · intro _
        refine ⟨un, by omega, ((HU9.out.kept (set_grown _ ⟨w.heap.size, 0, none⟩ _) (by simp; omega) (fun j h => by injection h with h; subst h; exact Nat.lt_succ_self _)).kept (set_grown _ ⟨w.heap.size, 1, none⟩ _) (by simp; omega) (fun j h => by injection h with h; subst h; exact Nat.lt_succ_self _)).kept (set_grown _ ⟨w.heap.size, 2, none⟩ _) (by simp; omega) (fun j h => by injection h with h; subst h; exact Nat.lt_succ_self _) |>.kept (set_grown _ ⟨w.heap.size, 3, none⟩ _) (by simp; omega) (fun j h => by injection h with h; subst h; exact Nat.lt_succ_self _)⟩
end Go.Proofs.YtikplcpghohklaaGreat
