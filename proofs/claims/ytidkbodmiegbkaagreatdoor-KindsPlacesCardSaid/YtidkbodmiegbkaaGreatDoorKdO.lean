/- Chapter 09: what the program's node defers, walked. -/
import Derived.Test.YtidkbodmiegbkaaGreatDoorKdN
import Derived.Defers
import Derived.WalkSmall
namespace Go.Proofs.YtidkbodmiegbkaaGreatDoor
set_option linter.unusedSimpArgs false
set_option linter.unusedVariables false
open Go.RowKit

/-- the map behind a store at one name -/
def MapPut (w : World) (b n : Nat) (s : List Nat) (u : Int) (c : List Nat → Int) : Prop := ∃ D : DataW Unit, w.ownsMap Tryz.prog 9 (plainElem Tryz.prog 3) b n D ∧ Maps.Tidy D ∧ (∀ x, NameOk x → D.atKey (keyS x) (.lit (.int .i64 0)) = .lit (.int .i64 (if x = s then u else c x))) ∧ (∀ x, NameOk x → x ≠ s → Maps.has D (keyS x) = decide (c x ≠ 0)) ∧ Maps.has D (keyS s) = true
theorem MapPut.at_ {w : World} {b n : Nat} {s : List Nat} {u : Int} {c : List Nat → Int} (h : MapPut w b n s u c) : MapAt w b n (fun x => if x = s then u else c x) := let ⟨D, h1, h2, h3, _⟩ := h; ⟨D, h1, h2, h3⟩
theorem MapPut.block {w w' : World} {b n : Nat} {s : List Nat} {u : Int} {c : List Nat → Int} (h : MapPut w b n s u c) (hb : w'.heap[b]? = w.heap[b]?) : MapPut w' b n s u c := let ⟨D, h1, h2⟩ := h; ⟨D, ownsMap_block h1 hb, h2⟩
theorem MapPut.is {w : World} {b n : Nat} {s : List Nat} {u : Int} {c c' : List Nat → Int} (h : MapPut w b n s u c) (hu : u ≠ 0) (e : ∀ x, NameOk x → c' x = if x = s then u else c x) : MapIs w b n c' := by
  obtain ⟨D, h1, h2, h3, h4, h5⟩ := h
  refine ⟨D, h1, h2, fun x hx => ?_⟩
  rw [e x hx]
  refine ⟨h3 x hx, ?_⟩
  by_cases hs : x = s
  · subst hs; rw [if_pos rfl, h5]; simp [hu]
  · rw [if_neg hs]; exact h4 x hx hs
section
open Go.Maps
variable {ops : Array Oper} {rest : List Oper} {o : Oper} {a : Act} {Q : Exit → Act → World → Prop} {w : World} {b n : Nat} {c : List Nat → Int} {s : List Nat}
theorem wpList_putA (hg : o.guard = none) (m x v : Operand) (hop : o.op = Op.mapUpdate 51 m x v) (h : MapIs w b n c) (hs : NameOk s) (hn : n < maxLen) (u : Int) (hwf : (Lit.int .i64 u).wf = true) (hm : a.eval m = .map (some b)) (hx : a.eval x = .string (txt s)) (hv : a.eval v = .int .i64 u) (hK : ∀ w', MapPut w' b (n + 1) s u c → w.grownBy w' (some b) → wpList Tryz.prog ops Q rest (a.put o.dst undef) w') : wpList Tryz.prog ops Q (o :: rest) a w := by
  obtain ⟨D, h1, h2, h3⟩ := h
  refine wpList_mapUpdate_own w hg m x v 51 hop 9 3 lawS Tryz.underlying51 _ b n D hm h1 hn _ _ (keyS s) hx hv (keyS_of hs.2) (.lit (.int .i64 u)) [] (plainElem_int Tryz.underlying3 hwf) (fun w' r1 r2 => hK w' ?_ r2)
  obtain ⟨D', r1', r2', r3'⟩ := MapAt.put hs r1 h2 (fun x hx => (h3 x hx).1)
  have hkl := lawS.key (keyS_of hs.2)
  refine ⟨D.put (keyS s) (.lit (.int .i64 u)), r1, h2.put hkl _, fun x hx => ?_, fun x hx hne => ?_, Maps.has_put_same h2.isMap hkl _⟩
  · by_cases e : x = s
    · subst e; rw [if_pos rfl]; exact Maps.atKey_put_same h2.isMap hkl _ _
    · rw [if_neg e, Maps.atKey_put_other (fun k => e (keyS_inj hx.1 hs.1 k))]; exact (h3 x hx).1
  · rw [Maps.has_put_other (fun k => hne (keyS_inj hx.1 hs.1 k))]; exact (h3 x hx).2
theorem wpList_del (hg : o.guard = none) (m x : Operand) (hop : o.op = Op.call { callee := Callee.builtin Builtin.delete, args := #[m, x], argTypes := #[51, 9] }) {u : Int} {c' : List Nat → Int} (h : MapPut w b n s u c) (hs : NameOk s) (hm : a.eval m = .map (some b)) (hx : a.eval x = .string (txt s)) (h0 : c' s = 0) (e : ∀ x, NameOk x → x ≠ s → c' x = c x) (hK : ∀ w', MapIs w' b n c' → w.grownBy w' (some b) → wpList Tryz.prog ops Q rest (a.put o.dst (.tuple #[])) w') : wpList Tryz.prog ops Q (o :: rest) a w := by
  obtain ⟨D, h1, h2, h3, h4, h5⟩ := h
  refine wpList_delete_own w hg m x 51 9 hop 3 lawS Tryz.underlying51 _ b n D hm h1 _ (keyS s) hx (keyS_of hs.2) (fun w' r1 r2 => hK w' ?_ r2.grown)
  exact MapIs.del hs r1 h2 (fun y hy hne => ⟨by rw [h3 y hy, if_neg hne, e y hy hne], by rw [h4 y hy hne, e y hy hne]⟩) h0
end
theorem cnt_more (vs : List (List Nat)) (s x : List Nat) : cntV (vs ++ [s]) x = if x = s then cntV vs s + 1 else cntV vs x := by
  unfold cntV
  rw [List.count_append]
  by_cases e : x = s
  · subst e; simp
  · rw [if_neg e]
    have : List.count x [s] = 0 := List.count_eq_zero.2 (by simp [e])
    simp [this]

set_option maxRecDepth 100000 in
set_option maxHeartbeats 8000000 in
theorem undo_d {w : World} {g bm kb fm nb nf C bs bn : Nat} {lv : Value} {K : List Int} {vs F : List (List Nat)} {s : List Nat} {e0 e2 e3 : Value} (H : KSt w g bm kb fm nb nf lv K (vs ++ [s]) F) (hs : NameOk s) (hbs : Blk w bs 48 #[.pointer (some ⟨g, 0, none⟩)]) (hbn : Blk w bn 40 #[e0, .string (txt s), e2, e3]) (hvl : vs.length ≤ 1000) (hnb : nb ≤ 1000000) (hC : C ≤ bm) (hCs : C ≤ w.heap.size) :
    CallsD Tryz.prog 37 #[.pointer (some ⟨bs, 0, none⟩), .pointer (some ⟨bn, 0, none⟩)] .returning w fun e u' w' => u' = .returning ∧ (e = .returned (.tuple #[]) ∧ KSt w' g bm kb fm (nb + 1) nf lv K vs F ∧ NK w w' C bm kb fm) := by
  have hcm := cnt_more vs s
  have hc0 := cnt_le (vs := vs) (s := s)
  have hcs := hcm s
  rw [if_pos rfl] at hcs
  obtain ⟨cv, hcv⟩ : ∃ z, cntV vs s = z := ⟨_, rfl⟩
  obtain ⟨c1, hc1⟩ : ∃ z, cntV (vs ++ [s]) s = z := ⟨_, rfl⟩
  rw [hcv, hc1] at hcs
  rw [hcv] at hc0
  have b0 : 1 ≤ c1 := by omega
  have b1 : c1 ≤ 1001 := by omega
  have HH := Lib.hid H
  have HS := Lib.hid hs
  have BS := Lib.hid hbs
  have BN := Lib.hid hbn
  have GS := Lib.hid H.blk
  have HC1 := Lib.hid hc1
  have HCV := Lib.hid hcv
  have HCS := Lib.hid hcs
  have HCM := Lib.hid hcm
  have HN := Lib.hid hnb
  clear hcm hc0 hcs hcv hc1 H hs hbs hbn hvl hnb
  have q0 : (w).cell? ⟨bs, 0, none⟩ = some (.pointer (some ⟨g, 0, none⟩)) := BS.out.cell rfl
  have q1 : (w).cell? ⟨g, 1, none⟩ = some (.map (some bm)) := GS.out.cell rfl
  have q2 : (w).cell? ⟨bn, 1, none⟩ = some (.string (txt s)) := BN.out.cell rfl
  go_enter_d Tryz.func37, Tryz.ntmps37
  go_upto_region 0 with fail
  go_still_tail 6, (by kernel_rfl)
  change wpList _ _ _ _ _ w.drew
  have HI : Hid (MapIs w.drew bm nb (cntV (vs ++ [s]))) := Lib.hid (HH.out.bnd.block rfl)
  have HG : Hid (w.grownBy w.drew (some bm)) := Lib.hid ⟨rfl, rfl, rfl, Nat.le_refl _, fun _ _ _ => rfl⟩
  generalize w.drew = w1 at *
  go_upto_region 1 with (first
    | (at_lookup; go_must (refine wpList_look rfl _ _ rfl HI.out.at_ HS.out (by rfl) (by rfl) ?_); rw [HC1.out])
    | (at_mapUpdate; go_must (refine wpList_putA rfl _ _ _ rfl HI.out HS.out (by have := HN.out; unfold maxLen; omega) (c1 - 1) (wf47 (by omega) (by omega)) (by rfl) (by rfl) (by rfl) ?_); intro w2 hput hgr; go_must (have HP := Lib.hid hput); go_must (have HG2 := Lib.hid (HG.out.trans hgr)); clear hput hgr)
    | fail)
  have BS2 : Hid (Blk w2 bs 48 #[.pointer (some ⟨g, 0, none⟩)]) := Lib.hid (BS.out.grown HG2.out (fun e => by injection e with e; exact map_blk_ne HH.out.bnd BS.out e))
  have BN2 : Hid (Blk w2 bn 40 #[e0, .string (txt s), e2, e3]) := Lib.hid (BN.out.grown HG2.out (fun e => by injection e with e; exact map_blk_ne HH.out.bnd BN.out e))
  have GS2 := Lib.hid (GS.out.grown HG2.out (fun e => by injection e with e; exact map_blk_ne HH.out.bnd GS.out e))
  clear q0 q1 q2
  have q0 : (w2).cell? ⟨bs, 0, none⟩ = some (.pointer (some ⟨g, 0, none⟩)) := BS2.out.cell rfl
  have q1 : (w2).cell? ⟨g, 1, none⟩ = some (.map (some bm)) := GS2.out.cell rfl
  have q2 : (w2).cell? ⟨bn, 1, none⟩ = some (.string (txt s)) := BN2.out.cell rfl
  go_still_tail 6, (by kernel_rfl)
  change wpList _ _ _ _ _ w2.drew
  have HP3 : Hid (MapPut w2.drew bm (nb + 1) s (c1 - 1) (cntV (vs ++ [s]))) := Lib.hid (HP.out.block rfl)
  have HG3 : Hid (w.grownBy w2.drew (some bm)) := Lib.hid ⟨HG2.out.os, HG2.out.tape, HG2.out.output, HG2.out.size, HG2.out.block⟩
  have BS3 := Lib.hid (Blk.drwN' BS2.out 1)
  have BN3 := Lib.hid (Blk.drwN' BN2.out 1)
  have GS3 := Lib.hid (Blk.drwN' GS2.out 1)
  change Hid (Blk w2.drew _ _ _) at BS3
  change Hid (Blk w2.drew _ _ _) at BN3
  change Hid (Blk w2.drew _ _ _) at GS3
  generalize w2.drew = w3 at *
  have HL3 := Lib.hid HP3.out.at_
  clear q0 q1 q2
  have q0 : (w3).cell? ⟨bs, 0, none⟩ = some (.pointer (some ⟨g, 0, none⟩)) := BS3.out.cell rfl
  have q1 : (w3).cell? ⟨g, 1, none⟩ = some (.map (some bm)) := GS3.out.cell rfl
  have q2 : (w3).cell? ⟨bn, 1, none⟩ = some (.string (txt s)) := BN3.out.cell rfl
  by_cases hz : c1 - 1 = 0
  · have e0' : (c1 - 1 == 0) = true := by simpa using hz
    have HZ := Lib.hid hz
    clear hz
    go_upto_region 2 with (first
      | (at_lookup; go_must (refine wpList_look rfl _ _ rfl HL3.out HS.out (by rfl) (by rfl) ?_); rw [if_pos rfl])
      | fail)
    go_still_tail 6, (by kernel_rfl)
    change wpList _ _ _ _ _ w3.drew
    have HP4 : Hid (MapPut w3.drew bm (nb + 1) s (c1 - 1) (cntV (vs ++ [s]))) := Lib.hid (HP3.out.block rfl)
    have HG4 : Hid (w.grownBy w3.drew (some bm)) := Lib.hid ⟨HG3.out.os, HG3.out.tape, HG3.out.output, HG3.out.size, HG3.out.block⟩
    generalize w3.drew = w4 at *
    go_wp2_with (first
      | (at_delete; go_must (refine wpList_del rfl _ _ rfl (c' := cntV vs) HP4.out HS.out (by rfl) (by rfl) (by rw [HCV.out]; have := HCS.out; have := HZ.out; omega) (fun x hx hne => by rw [HCM.out x, if_neg hne]) ?_); intro w5 hm5 hgr; go_must (have HM5 := Lib.hid hm5); go_must (have HG5 := Lib.hid (HG4.out.trans hgr)); clear hm5 hgr)
      | fail)
    go_end0
    exact ⟨rfl, HH.out.bound HG5.out HM5.out, NK.of_grown HG5.out (.inl rfl) hC hCs⟩
  · have e0' : (c1 - 1 == 0) = false := by simpa using hz
    have HZ := Lib.hid hz
    clear hz
    go_wp2_with (first
      | (at_lookup; go_must (refine wpList_look rfl _ _ rfl HL3.out HS.out (by rfl) (by rfl) ?_); rw [if_pos rfl])
      | fail)
    go_end0
    exact ⟨rfl, HH.out.bound HG3.out (HP3.out.is HZ.out (fun x hx => by
      rw [HCM.out x]
      by_cases hx2 : x = s
      · subst hx2; rw [if_pos rfl, HCV.out]; have := HCS.out; omega
      · rw [if_neg hx2, if_neg hx2])), NK.of_grown HG3.out (.inl rfl) hC hCs⟩
set_option maxRecDepth 100000 in
set_option maxHeartbeats 4000000 in
theorem loops_is (k : Int) (w : World) : Calls Tryz.prog 36 #[.int .i64 k] w fun e w' => e = .returned (.bool (decide (31 ≤ k ∧ k ≤ 34))) ∧ w = w' := by
  by_cases h1 : 31 ≤ k
  · have d1 : decide (31 ≤ k) = true := by simp; omega
    by_cases h2 : k ≤ 34
    · have d2 : decide (k ≤ 34) = true := by simp; omega
      have hv : decide (31 ≤ k ∧ k ≤ 34) = true := by simp; omega
      rw [hv]
      clear hv h1 h2
      go_enter Tryz.func36, Tryz.ntmps36
      go_wp2_with fail
      go_ret
      exact ⟨rfl, rfl⟩
    · have d2 : decide (k ≤ 34) = false := by simp; omega
      have hv : decide (31 ≤ k ∧ k ≤ 34) = false := by simp; omega
      rw [hv]
      clear hv h1 h2
      go_enter Tryz.func36, Tryz.ntmps36
      go_wp2_with fail
      go_ret
      exact ⟨rfl, rfl⟩
  · have d1 : decide (31 ≤ k) = false := by simp; omega
    have hv : decide (31 ≤ k ∧ k ≤ 34) = false := by simp; omega
    rw [hv]
    clear hv h1
    go_enter Tryz.func36, Tryz.ntmps36
    go_wp2_with fail
    go_ret
    exact ⟨rfl, rfl⟩
end Go.Proofs.YtidkbodmiegbkaaGreatDoor
