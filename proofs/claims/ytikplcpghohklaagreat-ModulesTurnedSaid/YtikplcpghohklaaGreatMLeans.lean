/- modules: a language and all that it leans on, gathered. -/
import Derived.Test.YtikplcpghohklaaGreatMNamed
import Derived.WalkMore
namespace Go.Proofs.YtikplcpghohklaaGreat
set_option linter.unusedSimpArgs false
set_option linter.unusedVariables false
open Go.RowKit

/-- the map of the uses, as it reads from a world on -/
def UsesAt (W : World) (bu : Nat) (us : Web) : Prop := ∀ (i : Nat) (u : List Nat), us[i]? = some u → ∃ (va : Option Addr) (vc : Nat),
  (∀ W', Below W.heap.size W W' → (Instr.lookup 77 (.map (some bu)) (.int .i64 (i : Int)) false).run Tryz.prog W' = .ok (.slice va u.length vc) W') ∧ SlR W W.heap.size 1 IsInt (.slice va u.length vc) (u.map fun (n : Nat) => (n : Int))
theorem map_mem {l : List Nat} {k : Nat} : (k : Int) ∈ (l.map fun (n : Nat) => (n : Int)) ↔ k ∈ l := by
  simp only [List.mem_map]
  constructor
  · rintro ⟨a, h, e⟩; have : a = k := by omega
    subst this; exact h
  · intro h; exact ⟨k, h, rfl⟩

set_option maxRecDepth 100000 in
set_option maxHeartbeats 8000000 in
theorem m_leans {us : Web} (p bu n0 : Nat) (w w0 : World) (hu : UsesAt w0 bu us) (hw : Below w0.heap.size w0 w) (hp2 : w0.cell? ⟨p, 2, none⟩ = some (.map (some bu))) (hlen : us.length ≤ 128) (hn0 : n0 < us.length) (hin : ∀ a b, Edge us a b → b < us.length) :
    Calls Tryz.prog 32 #[.pointer (some ⟨p, 0, none⟩), .int .i64 (n0 : Int)] w fun e w' => (∃ (oa : Option Addr) (oc : Nat) (out : List Nat), e = .returned (.slice oa out.length oc) ∧ Own1 w' w.heap.size 3 1 IsInt (.slice oa out.length oc) (out.map fun (n : Nat) => (n : Int)) ∧ ∀ m, m ∈ out ↔ m = n0 ∨ Reach us n0 m) ∧ Below w.heap.size w w' := by
  obtain ⟨jI, hi, hz, hsz, hby⟩ := info_parts info_i
  have I := Lib.hid (And.intro hi (And.intro hz (And.intro hsz hby)))
  clear hi hz hsz hby
  have Hu := Lib.hid hu
  have Hw := Lib.hid hw
  have Hp := Lib.hid hp2
  have Hin := Lib.hid hin
  have hsz0 := hw.size
  clear hu hw hp2 hin
  go_enter Tryz.func32, Tryz.ntmps32
  go_wp2_with fail
  have hO0 : Hid (Own1 (w.alloc (.cells #[.int .i64 (n0 : Int)] 3)) w.heap.size 3 1 IsInt (.slice (some ⟨w.heap.size, 0, none⟩) 1 1) ([n0].map fun (n : Nat) => (n : Int))) :=
    Lib.hid ⟨[.int .i64 (n0 : Int)], ⟨rfl, .inr ⟨w.heap.size, 1, #[.int .i64 (n0 : Int)], rfl, Nat.le_refl _, heap_alloc_new w _, Nat.le_refl _, by unfold maxLen; omega, rfl, rfl⟩⟩, FlatR.one rfl ⟨rfl, nat_wf (by omega)⟩⟩
  go_loopw [5, 6, 8, 10] (fun ov j _ _ wr => ∃ (i : Nat) (out : List Nat) (oa : Option Addr) (oc : Nat), ov = .slice oa out.length oc ∧ j = .int .i64 (i : Int) ∧ Hid (Gath us n0 i out) ∧ Hid (Own1 wr w.heap.size 3 1 IsInt (.slice oa out.length oc) (out.map fun (n : Nat) => (n : Int))) ∧ Hid (Below w.heap.size w wr)) (fun _ j _ _ _ => us.length - (intOf j).toNat)
  case atStart => exact ⟨0, [n0], some ⟨w.heap.size, 0, none⟩, 1, rfl, rfl, Gath.start us n0, hO0, Lib.hid ((Below.refl _ _).alloc (Nat.le_refl _) _)⟩
  case round =>
    obtain ⟨i, out, oa, oc, rfl, rfl, hG, hO, hB⟩ := hrel
    have hgl := hG.out.lt hn0 Hin.out
    have hup := hG.out.upto
    obtain ⟨ol, hol⟩ : ∃ z, out.length = z := ⟨_, rfl⟩
    rw [hol] at hO hgl hup ⊢
    have Hol := Lib.hid hol
    clear hol
    have hWr := Hw.out.trans (hB.out.mono Hw.out.size)
    by_cases hlt : i < ol
    · obtain ⟨xx, hx⟩ := get_some Hol.out hlt
      have hxm : xx ∈ out := List.mem_iff_getElem?.2 ⟨i, hx⟩
      have hxn : xx < us.length := by
        rcases hG.out.sound xx hxm with rfl | hr
        · exact hn0
        · cases hr with
          | one e => exact Hin.out _ _ e
          | more _ e => exact Hin.out _ _ e
      obtain ⟨u, huu⟩ := get_some rfl hxn
      obtain ⟨va, vc, hrun, hsu⟩ := Hu.out xx u huu
      have hq2 : wr.cell? ⟨p, 2, none⟩ = some (.map (some bu)) := (hWr.cell (p := ⟨p, 2, none⟩) (cell_lt Hp.out)).trans Hp.out
      obtain ⟨b, off, y, rfl, hbB, hyl, ⟨rfl, hwf⟩, hy⟩ := (hO.out.read (by omega)).at_ (show (out.map fun (n : Nat) => (n : Int))[i]? = some (xx : Int) by rw [List.getElem?_map, hx]; rfl)
      have hy0 : wr.cell? ⟨b, off + i, none⟩ = some (.int .i64 (xx : Int)) := by have := hy 0 _ rfl; simpa using this
      have hl : ∀ q, (Instr.lookup 77 (.map (some bu)) (.int .i64 (xx : Int)) false).run Tryz.prog (wr.drewN q) = .ok (.slice va u.length vc) (wr.drewN q) := fun q => hrun _ (below_drewN hWr q)
      have hl1 : (Instr.lookup 77 (.map (some bu)) (.int .i64 (xx : Int)) false).run Tryz.prog wr.drew = .ok (.slice va u.length vc) wr.drew := hrun _ hWr.drew
      obtain ⟨ul, hul⟩ : ∃ z, u.length = z := ⟨_, rfl⟩
      rw [hul] at hl hl1 hsu
      have Hsu := Lib.hid hsu
      have Hul := Lib.hid hul
      have hul63 : ul ≤ 9223372036854775807 := by have := hsu.caps; unfold maxLen at this; omega
      have Hx := Lib.hid hx
      have Huu := Lib.hid huu
      have HG := hG
      have HO := hO
      have HB := hB
      clear hrun hsu hul hx hxm huu hy hyl hwf hWr hG hO hB
      go_wp2_with fail
      go_step3
      go_wp2_with fail
      go_step3
      go_wp2_with fail
      go_quiet (fail)
      go_wp2_with fail
      have HB1 : Hid (Below w.heap.size w (wr.drewN 1)) := Lib.hid (below_drewN HB.out _)
      obtain ⟨wo, hwo⟩ : ∃ wo, wo = wr := ⟨wr, rfl⟩
      subst hwo
      go_hide hQ2
      go_loopw [5, 8, 10, 29] (fun ov _ _ j wr => ∃ (k : Nat) (out : List Nat) (oa : Option Addr) (oc : Nat), k ≤ ul ∧ ov = .slice oa out.length oc ∧ j = .int .i64 (k : Int) ∧ Hid (Gath us n0 i out) ∧ Hid (Own1 wr w.heap.size 3 1 IsInt (.slice oa out.length oc) (out.map fun (n : Nat) => (n : Int))) ∧ Hid (Below w.heap.size w wr) ∧ Hid (∀ m ∈ u.take k, m ∈ out) ∧ Hid (out[i]? = some xx)) (fun _ _ _ j _ => ul - (intOf j).toNat)
      case atStart => exact ⟨0, out, _, oc, Nat.zero_le _, by rw [Hol.out], rfl, HG, Lib.hid (by rw [Hol.out]; exact HO.out.below (below_drewN (Below.refl _ _) _) (Nat.le_refl _)), Lib.hid (below_drewN HB.out _), Lib.hid (by simp), Hx⟩
      case round =>
        obtain ⟨k, out, oa, oc, hk, rfl, rfl, hG, hO, hB, hT, hX⟩ := hrel
        have hgl := hG.out.lt hn0 Hin.out
        obtain ⟨ol, hol⟩ : ∃ z, out.length = z := ⟨_, rfl⟩
        rw [hol] at hO hgl ⊢
        have Hol := Lib.hid hol
        clear hol
        have hWr := Hw.out.trans (hB.out.mono Hw.out.size)
        by_cases hku : k < ul
        · obtain ⟨kk, hkk⟩ := get_some Hul.out hku
          obtain ⟨b3, off3, y3, rfl, hb3, hyl3, ⟨rfl, hwf3⟩, hy3⟩ := Hsu.out.at_ (show (u.map fun (n : Nat) => (n : Int))[k]? = some (kk : Int) by rw [List.getElem?_map, hkk]; rfl)
          have k0 : wr.cell? ⟨b3, off3 + k, none⟩ = some (.int .i64 (kk : Int)) := (hWr.cell (p := ⟨b3, off3 + k, none⟩) hb3).trans (by have := hy3 0 _ rfl; simpa using this)
          have hedge : Edge us xx kk := (edge_at Huu.out kk).2 (List.mem_iff_getElem?.2 ⟨k, hkk⟩)
          have Htk : Hid (u.take (k + 1) = u.take k ++ [kk]) := by show _ = _; rw [List.take_add_one, hkk]; rfl
          have Hedge := Lib.hid hedge
          have Hwf := Lib.hid hwf3
          have hkn : kk < us.length := Hin.out _ _ hedge
          have HG := hG
          have HO := hO
          have HB := hB
          have HT := hT
          have HX := hX
          clear hkk hy3 hyl3 hwf3 hedge hWr hG hO hB hT hX
          go_wp2_with fail
          obtain ⟨wq, hwq⟩ : ∃ wq, wq = wr := ⟨wr, rfl⟩
          subst hwq
          go_hide hQ3
          go_loopw [10, 35] (fun _ j wr => ∃ q : Nat, q ≤ ol ∧ j = .int .i64 (q : Int) ∧ Hid (Quiet wq wr) ∧ Hid (∀ a d, a < q → out[a]? = some d → d ≠ kk)) (fun _ j _ => ol - (intOf j).toNat)
          case atStart => exact ⟨0, Nat.zero_le _, rfl, Quiet.refl _, fun a d ha => by omega⟩
          case round =>
            obtain ⟨q, hq, rfl, hqq, hno⟩ := hrel
            have HO2 : Hid (Own1 wr w.heap.size 3 1 IsInt (.slice oa ol oc) (out.map fun (n : Nat) => (n : Int))) := Lib.hid (HO.out.below (hqq.out.below _) (Nat.le_refl _))
            have HB2 : Hid (Below w.heap.size w wr) := Lib.hid (HB.out.trans ((hqq.out.below wq.heap.size).mono HB.out.size))
            by_cases hqo : q < ol
            · obtain ⟨oo, hoo⟩ := get_some Hol.out hqo
              obtain ⟨b4, off4, y4, rfl, hb4, hyl4, ⟨rfl, _⟩, hy4⟩ := (HO2.out.read (by omega)).at_ (show (out.map fun (n : Nat) => (n : Int))[q]? = some (oo : Int) by rw [List.getElem?_map, hoo]; rfl)
              have o0 : wr.cell? ⟨b4, off4 + q, none⟩ = some (.int .i64 (oo : Int)) := by have := hy4 0 _ rfl; simpa using this
              have Hoo := Lib.hid hoo
              clear hoo hy4 hyl4
              by_cases e : oo = kk
              · have e1 : ((oo : Int) == (kk : Int)) = true := by simp [e]
                have HT2 : Hid (∀ m ∈ u.take (k + 1), m ∈ out) := by
                  intro m hm
                  rw [Htk.out] at hm
                  rcases List.mem_append.1 hm with hm | hm
                  · exact HT.out m hm
                  · simp at hm; rw [hm, ← e]; exact List.mem_iff_getElem?.2 ⟨q, Hoo.out⟩
                have HE := Lib.hid (And.intro HO2.out (And.intro HB2.out HT2.out))
                clear e hno HO2 HB2 HT2
                subst hQ3
                go_wp2_with fail
                exact ⟨⟨k + 1, out, some ⟨b4, off4, none⟩, oc, by omega, by rw [Hol.out], by go_num, HG, Lib.hid (by rw [Hol.out]; exact HE.out.1), Lib.hid HE.out.2.1, Lib.hid HE.out.2.2, HX⟩, by simp [intOf]; omega⟩
              · have e1 : ((oo : Int) == (kk : Int)) = false := by simp; omega
                have hno2 : Hid (∀ a d, a < q + 1 → out[a]? = some d → d ≠ kk) := by
                  intro a d ha hd
                  by_cases h : a = q
                  · subst h
                    rw [Hoo.out] at hd
                    injection hd with hd
                    subst hd
                    exact e
                  · exact hno.out a d (by omega) hd
                clear e
                go_wp2_with fail
                go_roundw
                case rel => exact ⟨q + 1, by omega, by go_num, hqq, hno2⟩
                case measure => simp [intOf]; omega
            · have hnm : kk ∉ out := by
                intro h
                obtain ⟨a, ha⟩ := List.mem_iff_getElem?.1 h
                exact hno.out a kk (by have := (List.getElem?_eq_some_iff.1 ha).1; rw [Hol.out] at this; omega) ha rfl
              have hxo : xx ∈ out := List.mem_iff_getElem?.2 ⟨i, HX.out⟩
              have HG2 : Hid (Gath us n0 i (out ++ [kk])) := HG.out.more hxo Hedge.out hnm
              have HT2 : Hid (∀ m ∈ u.take (k + 1), m ∈ out ++ [kk]) := by
                intro m hm
                rw [Htk.out] at hm
                rcases List.mem_append.1 hm with hm | hm
                · exact List.mem_append_left _ (HT.out m hm)
                · exact List.mem_append_right _ hm
              have HX2 : Hid ((out ++ [kk])[i]? = some xx) := by
                show _ = _
                rw [List.getElem?_append_left (List.getElem?_eq_some_iff.1 HX.out).1]
                exact HX.out
              have hgl2 := HG2.out.lt hn0 Hin.out
              have hbz := HB2.out.size
              have hol1 : ol + 1 ≤ us.length := by rw [List.length_append, Hol.out] at hgl2; simpa using hgl2
              have hge : ol ≤ q := by omega
              clear hnm hxo hgl2 hqo
              subst hQ3
              go_wp2_with (first
                | (at_builtin
                   go_must (refine wpList_append_list rfl (.tmp 43) (.tmp 45) _ rfl w.heap.size _ 3 jI _ 1 8 Tryz.underlying25 I.out.1 I.out.2.1 I.out.2.2.1 I.out.2.2.2 rfl (by omega) (R := IsInt) (l := out.map fun (n : Nat) => (n : Int)) (m := [(kk : Int)]) (.slice oa ol oc) rfl (by exact HO2.out.alloc _) (some ⟨wr.heap.size, 0, none⟩) 1 1 rfl (by exact SlR.new1 rfl rfl ⟨rfl, Hwf.out⟩) (ol + 1) (by rw [List.length_map, Hol.out]) IsInt.one (by rw [List.length_map, Hol.out]; unfold maxLen; omega) (by rw [List.length_map, Hol.out]; omega) (by simp; omega) ?_)
                   intro xa xc w9 hown hgr
                   have O9 : Hid (Own1 w9 w.heap.size 3 1 IsInt (.slice xa (ol + 1) xc) ((out ++ [kk]).map fun (n : Nat) => (n : Int))) := Lib.hid (by rw [List.map_append]; exact hown)
                   have B9 : Hid (Below w.heap.size w w9) := Lib.hid ((HB2.out.alloc hbz _).trans (below_of_grown (HO2.out.alloc _) (by simp; omega) hgr))
                   clear hown hgr))
              exact ⟨⟨k + 1, out ++ [kk], xa, xc, by omega, by rw [List.length_append, Hol.out]; rfl, by go_num, HG2, Lib.hid (by rw [List.length_append, Hol.out]; exact O9.out), B9, HT2, HX2⟩, by simp [intOf]; omega⟩
        · obtain rfl : ul = k := by omega
          have hG2 : Hid (Gath us n0 (i + 1) out) := hG.out.next hX.out (fun m e => hT.out m (by
            rw [List.take_of_length_le (by rw [Hul.out]; exact Nat.le_refl _)]
            exact (edge_at Huu.out m).1 e))
          have HO := hO
          have HB := hB
          have hi3 : i < us.length := by have := (List.getElem?_eq_some_iff.1 hX.out).1; rw [Hol.out] at this; omega
          clear hku hWr hG hO hB hT hX
          subst hQ2
          go_wp2_with fail
          (try simp only [Exit.noGoto])
          go_wp2_with fail
          exact ⟨⟨i + 1, out, oa, oc, by rw [Hol.out], by go_num, hG2, Lib.hid (by rw [Hol.out]; exact HO.out), HB⟩, by simp [intOf]; omega⟩
    · have hio : i = ol := by omega
      have hm := fun m => (show Gath us n0 out.length out by rw [Hol.out, ← hio]; exact hG.out).done m
      have HM := Lib.hid hm
      have HO := hO
      have HB := hB
      clear hm hG hO hB hWr hlt
      go_wp2_with fail
      go_ret
      exact ⟨⟨oa, oc, out, by rw [Hol.out]; rfl, by rw [Hol.out]; exact HO.out, HM.out⟩, HB.out⟩
end Go.Proofs.YtikplcpghohklaaGreat
