/- Chapter 11, the reference's: the Op of a word, and how it reads a line. Chapter 11: the invariant of the region in which the document's read answers, in plain words; steps that wait on a guard. Chapter 11, the reference's: how it reads a line. Chapter 11, the reference's: a text of code is read. Chapter 11: the law CodeReads, walked. -/
import Derived.Test.YtdkoafmgenbkbaaDoorRdA
import Derived.Test.YtdkoafmgenbkbaaDoorRCb
import Derived.Test.YtdkoafmgenbkbaaDoorRInt
import Derived.Test.YtdkoafmgenbkbaaDoorMLh
import Derived.Test.YtdkoafmgenbkbaaDoorCdG
import Derived.Deep.CutRange
import Derived.Deep.CutBlock
import Derived.Outline
import Derived.Test.YtdkoafmgenbkbaaDoorRdB
import Derived.Test.YtdkoafmgenbkbaaDoorRightsW
namespace Go.Proofs.YtdkoafmgenbkbaaDoor
set_option linter.unusedSimpArgs false
set_option linter.unusedVariables false
open Go.RowKit

/-- the Op of a word; nothing: 0 -/
def opR (x : ByteArray) : Int := if 1 ≤ opN x then opN x else 0
theorem opR_hit {x : ByteArray} {k : Int} (h1 : 1 ≤ k) (h2 : k ≤ 40) (h : wordC k = x) : opR x = k := by
  have := op_of k h1 h2
  rw [h] at this
  unfold opR
  rw [this, if_pos h1]
theorem opR_miss {x : ByteArray} (h : ∀ j : Int, 1 ≤ j → j ≤ 40 → wordC j ≠ x) : opR x = 0 := by
  unfold opR
  split
  · rename_i h1
    have h2 := op_word h1
    exact absurd h2.2 (h _ h1 h2.1)
  · rfl
theorem beq_text {a b : ByteArray} : (a.toList == b.toList) = decide (a = b) := by
  rw [Bool.eq_iff_iff]
  simp [toList_inj]
set_option maxRecDepth 100000 in
set_option maxHeartbeats 4000000 in
theorem rop_any (x : ByteArray) (w : World) : Calls Tryd.prog 79 #[.string x] w fun e w' => e = .returned (.int .i64 (opR x)) ∧ Below w.heap.size w w' := by
  go_enter Tryd.func79, Tryd.ntmps79
  go_wp2_with fail
  go_loopw [2, 3] (fun _ j wr => ∃ k : Nat, 1 ≤ k ∧ k ≤ 41 ∧ j = .int .i64 (k : Int) ∧ Hid (∀ j : Int, 1 ≤ j → j < k → wordC j ≠ x) ∧ Hid (Below w.heap.size w wr)) (fun _ j _ => 41 - (intOf j).toNat)
  case atStart => exact ⟨1, by omega, by omega, rfl, Lib.hid (fun j h1 h2 => by omega), Lib.hid (Below.refl _ _)⟩
  case round =>
    obtain ⟨k, hk1, hk2, rfl, hN, hB⟩ := hrel
    by_cases hlt : k ≤ 40
    · have WD := Lib.hid (fun W => word_any (k : Int) W)
      have h40 : (k : Int) ≤ 40 := by omega
      obtain ⟨wd, hwd⟩ : ∃ y, wordC (k : Int) = y := ⟨_, rfl⟩
      rw [hwd] at WD
      have hdec := beq_text (a := wd) (b := x)
      by_cases hx : wd = x
      · have hx1 : (wd.toList == x.toList) = true := by rw [hdec]; exact decide_eq_true hx
        have HV := Lib.hid (opR_hit (by omega) (by omega) (hwd.trans hx))
        clear hdec hx hwd
        go_wp2_with (first
          | (go_at_call 39; go_must (refine (WD.out _).mono ?_); rintro e w2 ⟨rfl, hb⟩; have HB := Lib.hid hb; clear hb)
          | fail)
        go_ret
        exact ⟨by rw [HV.out]; rfl, hB.out.trans (HB.out.mono hB.out.size)⟩
      · have hx1 : (wd.toList == x.toList) = false := by rw [hdec]; exact decide_eq_false hx
        have HX := Lib.hid hx
        have HWD := Lib.hid hwd
        clear hdec hx hwd
        go_wp2_with (first
          | (go_at_call 39; go_must (refine (WD.out _).mono ?_); rintro e w2 ⟨rfl, hb⟩; have HB := Lib.hid hb; clear hb)
          | fail)
        go_roundw
        case rel =>
          refine ⟨k + 1, by omega, by omega, by go_num, Lib.hid (fun j h1 h2 => ?_), Lib.hid (hB.out.trans (HB.out.mono hB.out.size))⟩
          by_cases hj : j = (k : Int)
          · subst hj; rw [HWD.out]; exact HX.out
          · exact hN.out j h1 (by omega)
        case measure => simp [intOf]; omega
    · have h40 : ¬ (k : Int) ≤ 40 := by omega
      go_wp2_with fail
      go_ret
      exact ⟨by rw [opR_miss (fun j h1 h2 => hN.out j h1 (by omega))]; rfl, hB.out⟩
set_option maxRecDepth 100000 in
set_option maxHeartbeats 4000000 in
theorem rins_any (x : ByteArray) (w : World) : Calls Tryd.prog 55 #[.string x] w fun e w' => e = .returned (.agg #[.int .i64 (opR x), .int .i64 0, .int .i64 0, .string ⟨#[]⟩]) ∧ Below w.heap.size w w' := by
  have OP := Lib.hid (fun W => rop_any x W)
  obtain ⟨op, hop⟩ : ∃ y, opR x = y := ⟨_, rfl⟩
  rw [hop] at OP ⊢
  clear hop
  go_enter Tryd.func55, Tryd.ntmps55
  go_wp2_with (first
    | (go_at_call 79; go_must (refine (OP.out _).mono ?_); rintro e w2 ⟨rfl, hb⟩; have B2 : Blk w2 w.heap.size 46 #[.int .i64 0, .int .i64 0, .int .i64 0, .string ⟨#[]⟩] := (Blk.new w _ _).below hb (by simp); have c0 : w2.cell? ⟨w.heap.size, 0, none⟩ = some (.int .i64 0) := B2.cell rfl; have c1 : w2.cell? ⟨w.heap.size, 1, none⟩ = some (.int .i64 0) := B2.cell rfl; have c2 : w2.cell? ⟨w.heap.size, 2, none⟩ = some (.int .i64 0) := B2.cell rfl; have c3 : w2.cell? ⟨w.heap.size, 3, none⟩ = some (.string ⟨#[]⟩) := B2.cell rfl; have f0 := B2.frozen 0; have f1 := B2.frozen 1; have f2 := B2.frozen 2; have f3 := B2.frozen 3; have K2 := Lib.hid (And.intro B2 (((Below.refl _ _).alloc (Nat.le_refl _) (.cells #[.int .i64 0, .int .i64 0, .int .i64 0, .string ⟨#[]⟩] 46)).trans (hb.mono (by simp)))); clear hb B2)
    | fail)
  generalize hz : World.setCell _ _ _ = wz
  have RZ : Blk wz w.heap.size 46 #[.int .i64 op, .int .i64 0, .int .i64 0, .string ⟨#[]⟩] := by rw [← hz]; have h := (((K2.out.1.set_ 0 (.int .i64 op)).set_ 1 (.int .i64 0)).set_ 2 (.int .i64 0)).set_ 3 (.string ⟨#[]⟩); simpa using h
  have LZ : Below w.heap.size w wz := by rw [← hz]; exact (((K2.out.2.setCell (p := ⟨w.heap.size, 0, none⟩) (Nat.le_refl _) _).setCell (p := ⟨w.heap.size, 1, none⟩) (Nat.le_refl _) _).setCell (p := ⟨w.heap.size, 2, none⟩) (Nat.le_refl _) _).setCell (p := ⟨w.heap.size, 3, none⟩) (Nat.le_refl _) _
  clear hz
  have q0 : wz.cell? ⟨w.heap.size, 0, none⟩ = some (.int .i64 op) := RZ.cell rfl
  have q1 : wz.cell? ⟨w.heap.size, 1, none⟩ = some (.int .i64 0) := RZ.cell rfl
  have q2 : wz.cell? ⟨w.heap.size, 2, none⟩ = some (.int .i64 0) := RZ.cell rfl
  have q3 : wz.cell? ⟨w.heap.size, 3, none⟩ = some (.string ⟨#[]⟩) := RZ.cell rfl
  refine bodyPost_ret (v := .agg #[.int .i64 op, .int .i64 0, .int .i64 0, .string ⟨#[]⟩]) (by simp [results, Tryd.results55, go_sem, q0, q1, q2, q3]) rfl ?_
  exact ⟨rfl, LZ⟩

set_option maxRecDepth 100000 in
set_option maxHeartbeats 8000000 in
theorem has_other (x : ByteArray) (h : ¬ 1 ≤ opN x) (w : World) : Calls Tryd.prog 40 #[.string x] w fun e w' => e = .returned (.string ⟨#[]⟩) ∧ Quiet w w' := by
  have no : ∀ k : Int, 1 ≤ k → k ≤ 40 → (x.toList == (wordC k).toList) = false := fun k h1 h2 => by
    rw [beq_text]
    refine decide_eq_false fun e => h ?_
    have := op_of k h1 h2
    rw [← e] at this
    omega

  have n1 : (x.toList == [115, 116, 101, 112]) = false := by have := no 1 (by decide) (by decide); rwa [show (wordC 1).toList = [115, 116, 101, 112] from (by rw [show wordC 1 = ⟨#[115, 116, 101, 112]⟩ from rfl, ByteArray.toList_eq])] at this
  have n8 : (x.toList == [108, 111, 97, 100]) = false := by have := no 8 (by decide) (by decide); rwa [show (wordC 8).toList = [108, 111, 97, 100] from (by rw [show wordC 8 = ⟨#[108, 111, 97, 100]⟩ from rfl, ByteArray.toList_eq])] at this
  have n2 : (x.toList == [105, 110, 116]) = false := by have := no 2 (by decide) (by decide); rwa [show (wordC 2).toList = [105, 110, 116] from (by rw [show wordC 2 = ⟨#[105, 110, 116]⟩ from rfl, ByteArray.toList_eq])] at this
  have n3 : (x.toList == [116, 101, 120, 116]) = false := by have := no 3 (by decide) (by decide); rwa [show (wordC 3).toList = [116, 101, 120, 116] from (by rw [show wordC 3 = ⟨#[116, 101, 120, 116]⟩ from rfl, ByteArray.toList_eq])] at this
  have n10 : (x.toList == [112, 114, 111, 112]) = false := by have := no 10 (by decide) (by decide); rwa [show (wordC 10).toList = [112, 114, 111, 112] from (by rw [show wordC 10 = ⟨#[112, 114, 111, 112]⟩ from rfl, ByteArray.toList_eq])] at this
  have n11 : (x.toList == [107, 105, 100, 115]) = false := by have := no 11 (by decide) (by decide); rwa [show (wordC 11).toList = [107, 105, 100, 115] from (by rw [show wordC 11 = ⟨#[107, 105, 100, 115]⟩ from rfl, ByteArray.toList_eq])] at this
  have n12 : (x.toList == [114, 101, 102]) = false := by have := no 12 (by decide) (by decide); rwa [show (wordC 12).toList = [114, 101, 102] from (by rw [show wordC 12 = ⟨#[114, 101, 102]⟩ from rfl, ByteArray.toList_eq])] at this
  have n14 : (x.toList == [105, 115]) = false := by have := no 14 (by decide) (by decide); rwa [show (wordC 14).toList = [105, 115] from (by rw [show wordC 14 = ⟨#[105, 115]⟩ from rfl, ByteArray.toList_eq])] at this
  have n15 : (x.toList == [97, 108, 108]) = false := by have := no 15 (by decide) (by decide); rwa [show (wordC 15).toList = [97, 108, 108] from (by rw [show wordC 15 = ⟨#[97, 108, 108]⟩ from rfl, ByteArray.toList_eq])] at this
  have n30 : (x.toList == [97, 110, 100]) = false := by have := no 30 (by decide) (by decide); rwa [show (wordC 30).toList = [97, 110, 100] from (by rw [show wordC 30 = ⟨#[97, 110, 100]⟩ from rfl, ByteArray.toList_eq])] at this
  have n31 : (x.toList == [111, 114]) = false := by have := no 31 (by decide) (by decide); rwa [show (wordC 31).toList = [111, 114] from (by rw [show wordC 31 = ⟨#[111, 114]⟩ from rfl, ByteArray.toList_eq])] at this
  have n33 : (x.toList == [117, 110, 108, 101, 115, 115]) = false := by have := no 33 (by decide) (by decide); rwa [show (wordC 33).toList = [117, 110, 108, 101, 115, 115] from (by rw [show wordC 33 = ⟨#[117, 110, 108, 101, 115, 115]⟩ from rfl, ByteArray.toList_eq])] at this
  have n34 : (x.toList == [106, 117, 109, 112]) = false := by have := no 34 (by decide) (by decide); rwa [show (wordC 34).toList = [106, 117, 109, 112] from (by rw [show wordC 34 = ⟨#[106, 117, 109, 112]⟩ from rfl, ByteArray.toList_eq])] at this
  have n39 : (x.toList == [110, 101, 120, 116]) = false := by have := no 39 (by decide) (by decide); rwa [show (wordC 39).toList = [110, 101, 120, 116] from (by rw [show wordC 39 = ⟨#[110, 101, 120, 116]⟩ from rfl, ByteArray.toList_eq])] at this
  have n40 : (x.toList == [116, 97, 107, 101]) = false := by have := no 40 (by decide) (by decide); rwa [show (wordC 40).toList = [116, 97, 107, 101] from (by rw [show wordC 40 = ⟨#[116, 97, 107, 101]⟩ from rfl, ByteArray.toList_eq])] at this
  clear h no
  go_enter Tryd.func40, Tryd.ntmps40
  go_wp2_with fail
  go_ret
  exact ⟨rfl, Quiet.refl _⟩
end Go.Proofs.YtdkoafmgenbkbaaDoor
namespace Go.Proofs.YtdkoafmgenbkbaaDoor
set_option linter.unusedSimpArgs false
set_option linter.unusedVariables false
open Go.RowKit

section
variable {P : Program} {ops : Array Oper} {Q : Exit → Act → World → Prop}
theorem wpOp_yes {k : Nat} {o : Oper} {a : Act} {K : Act → World → Prop} {w : World} (hk : ops[k]? = some o) (hw : Region.wanted o (yielded ops a.tmps) = true) (h : o.wp P a w K Q) : wpOp P ops Q k K a w := by
  unfold wpOp
  simp only [hk]
  rw [if_pos hw]
  exact .inl h
theorem wpOp_no {k : Nat} {o : Oper} {a : Act} {K : Act → World → Prop} {w : World} (hk : ops[k]? = some o) (hw : Region.wanted o (yielded ops a.tmps) = false) (h : K (a.put o.dst undef) w) : wpOp P ops Q k K a w := by
  unfold wpOp
  simp only [hk]
  rw [if_neg (by rw [hw]; decide)]
  exact h
theorem yield_of {a : Act} {j d : Nat} {b : Bool} {o : Oper} (ho : ops[j]? = some o) (hd : o.dst = some d) (hv : a.tmps.getD d undef = .bool b) (hs : d < a.tmps.size) : yielded ops a.tmps j = some b := by
  unfold yielded
  have : a.tmps[d]? = some (.bool b) := by
    rw [Array.getElem?_eq_getElem hs]
    congr 1
    simpa [Array.getD, hs] using hv
  simp [ho, hd, this]
end
theorem wanted_of {ops : Array Oper} {o : Oper} {a : Act} {g : Nat} {want b : Bool} (hg : o.guard = some (g, want)) (hy : yielded ops a.tmps g = some b) : Region.wanted o (yielded ops a.tmps) = (b == want) := by
  unfold Region.wanted
  simp only [hg, hy]
  cases b <;> cases want <;> rfl
/-- what the operations hold: op, is it above 0, is it plain, the line -/
def fix20 (q : Nat) (X : Value) (op : Int) (s line : ByteArray) (b0 b1 b2 : Bool) (k : Nat) : Option Value := match k with
  | 0 => some X | 1 => some (.pointer (some ⟨q, 0, none⟩)) | 2 => some (.int .i64 op) | 3 => some (.bool b0) | 4 => some (.bool b0)
  | 5 => some (if b0 = true then X else undef) | 6 => some (if b0 = true then .bool b1 else undef) | 7 => some (.bool (b0 && b1)) | 8 => some (.bool (b0 && b1))
  | 9 => some (if (b0 && b1) = true then X else undef) | 10 => some (if (b0 && b1) = true then .string line else undef) | 11 => some (if (b0 && b1) = true then .string s else undef)
  | 12 => some (if (b0 && b1) = true then .bool b2 else undef) | 13 => some (.bool (b0 && b1 && b2)) | _ => none
structure R20 (w0 : World) (r q : Nat) (t : TypeId) (XV RV : Array Value) (X : Value) (op : Int) (s line : ByteArray) (b0 b1 b2 : Bool) (L : Array Bool) (a : Act) (w : World) : Prop where
  lsz : L.size = 16
  asz : a.tmps.size = 89
  dfs : a.defers = []
  t0 : a.tmps.getD 0 undef = .string s
  t2 : a.tmps.getD 2 undef = .pointer (some ⟨r, 0, none⟩)
  t5 : a.tmps.getD 5 undef = .pointer (some ⟨q, 0, none⟩)
  fx : ∀ k v, fix20 q X op s line b0 b1 b2 k = some v → L.getD k false = true → a.tmps.getD (75 + k) undef = v
  bx : Blk w q t XV
  br : Blk w r t (if L.getD 14 false = true then XV else RV)
  bel : Below w0.heap.size w0 w
  fin : L.getD 15 false = true → a.tmps.getD 3 undef = .bool (b0 && b1 && b2)
section
variable {w0 : World} {r q : Nat} {t : TypeId} {XV RV : Array Value} {X : Value} {op : Int} {s line : ByteArray} {b0 b1 b2 : Bool} {L : Array Bool} {a : Act} {w w' : World}
theorem fix20_lt {k : Nat} {v : Value} (h : fix20 q X op s line b0 b1 b2 k = some v) : k < 14 := by
  rcases Nat.lt_or_ge k 14 with hk | hk
  · exact hk
  · exfalso
    unfold fix20 at h
    split at h <;> first | omega | cases h
theorem R20.step (h : R20 w0 r q t XV RV X op s line b0 b1 b2 L a w) (k : Nat) {v : Value} (hk : fix20 q X op s line b0 b1 b2 k = some v) (hb : Below w.heap.size w w') : R20 w0 r q t XV RV X op s line b0 b1 b2 (L.setIfInBounds k true) (a.put (some (75 + k)) v) w' := by
  have hs := h.lsz
  have ha := h.asz
  have hk2 := fix20_lt hk
  have hT : ∀ e, (a.put (some (75 + k)) v).tmps.getD e undef = if e = 75 + k then v else a.tmps.getD e undef := fun e => getD_put (by omega)
  have hL : ∀ j, (L.setIfInBounds k true).getD j false = if j = k then true else L.getD j false := fun j => getD_set (by omega)
  refine ⟨by simpa using hs, by simpa [Act.put] using ha, by simpa [Act.put] using h.dfs, ?_, ?_, ?_, ?_, h.bx.below hb h.bx.lt, ?_, h.bel.trans (hb.mono h.bel.size), ?_⟩
  · rw [hT, if_neg (by omega)]; exact h.t0
  · rw [hT, if_neg (by omega)]; exact h.t2
  · rw [hT, if_neg (by omega)]; exact h.t5
  · intro j u hj hl
    rw [hT]
    rw [hL] at hl
    by_cases e : j = k
    · subst e; rw [if_pos rfl]; rw [hk] at hj; injection hj
    · rw [if_neg e] at hl; rw [if_neg (by omega)]; exact h.fx j u hj hl
  · have e14 : (L.setIfInBounds k true).getD 14 false = L.getD 14 false := by rw [hL, if_neg (by omega)]
    rw [e14]; exact h.br.below hb h.br.lt
  · intro hl; rw [hL, if_neg (by omega)] at hl; rw [hT, if_neg (by omega)]; exact h.fin hl
theorem R20.store (h : R20 w0 r q t XV RV X op s line b0 b1 b2 L a w) (h14 : L.getD 14 false = false) (hq : Blk w' q t XV) (hr : Blk w' r t XV) (hb : Below w0.heap.size w0 w') : R20 w0 r q t XV RV X op s line b0 b1 b2 (L.setIfInBounds 14 true) a w' := by
  have hs := h.lsz
  have hL : ∀ j, (L.setIfInBounds 14 true).getD j false = if j = 14 then true else L.getD j false := fun j => getD_set (by omega)
  refine ⟨by simpa using hs, h.asz, h.dfs, h.t0, h.t2, h.t5, ?_, hq, ?_, hb, ?_⟩
  · intro j u hj hl
    have := fix20_lt hj
    rw [hL, if_neg (by omega)] at hl
    exact h.fx j u hj hl
  · rw [hL, if_pos rfl]; exact hr
  · intro hl; rw [hL, if_neg (by omega)] at hl; exact h.fin hl
theorem R20.last (h : R20 w0 r q t XV RV X op s line b0 b1 b2 L a w) : R20 w0 r q t XV RV X op s line b0 b1 b2 (L.setIfInBounds 15 true) (a.put (some 3) (.bool (b0 && b1 && b2))) w := by
  have hs := h.lsz
  have ha := h.asz
  have hT : ∀ e, (a.put (some 3) (.bool (b0 && b1 && b2))).tmps.getD e undef = if e = 3 then (.bool (b0 && b1 && b2)) else a.tmps.getD e undef := fun e => getD_put (by omega)
  have hL : ∀ j, (L.setIfInBounds 15 true).getD j false = if j = 15 then true else L.getD j false := fun j => getD_set (by omega)
  refine ⟨by simpa using hs, by simpa [Act.put] using ha, by simpa [Act.put] using h.dfs, ?_, ?_, ?_, ?_, h.bx, ?_, h.bel, ?_⟩
  · rw [hT, if_neg (by omega)]; exact h.t0
  · rw [hT, if_neg (by omega)]; exact h.t2
  · rw [hT, if_neg (by omega)]; exact h.t5
  · intro j u hj hl
    have := fix20_lt hj
    rw [hT]
    rw [hL, if_neg (by omega)] at hl
    rw [if_neg (by omega)]
    exact h.fx j u hj hl
  · have e14 : (L.setIfInBounds 15 true).getD 14 false = L.getD 14 false := by rw [hL, if_neg (by omega)]
    rw [e14]; exact h.br
  · intro _; rw [hT, if_pos rfl]
theorem R20.start (ha : a.tmps.size = 89) (hd : a.defers = []) (h0 : a.tmps.getD 0 undef = .string s) (h2 : a.tmps.getD 2 undef = .pointer (some ⟨r, 0, none⟩)) (h5 : a.tmps.getD 5 undef = .pointer (some ⟨q, 0, none⟩)) (hx : Blk w q t XV) (hr : Blk w r t RV) (hb : Below w0.heap.size w0 w) :
    R20 w0 r q t XV RV X op s line b0 b1 b2 (Array.replicate 16 false) a w := by
  have hL : ∀ j, (Array.replicate 16 false).getD j false = false := fun j => by
    simp only [Array.getD_eq_getD_getElem?, Array.getElem?_replicate]
    split <;> rfl
  refine ⟨by simp, ha, hd, h0, h2, h5, fun j u _ hl => ?_, hx, ?_, hb, fun hl => ?_⟩
  · rw [hL] at hl; cases hl
  · rw [hL]; exact hr
  · rw [hL] at hl; cases hl
end
end Go.Proofs.YtdkoafmgenbkbaaDoor
namespace Go.Proofs.YtdkoafmgenbkbaaDoor
set_option linter.unusedSimpArgs false
set_option linter.unusedVariables false
open Go.RowKit

theorem ahead_more {c : Nat} : ∀ {l : List Nat} {k n : Nat}, k ≤ (aheadC c l).length → l[k]? = some n → n ≠ c → k + 1 ≤ (aheadC c l).length
  | [], k, n, h, e, hn => by cases e
  | b :: l, k, n, h, e, hn => by
    unfold aheadC at *
    by_cases hb : b = c
    · subst hb
      simp at h
      subst h
      simp at e
      exact absurd e.symm hn
    · have hb' : (b != c) = true := by simpa using hb
      rw [List.takeWhile_cons_of_pos (p := fun n => n != c) hb'] at h ⊢
      cases k with
      | zero => simp
      | succ k =>
        simp only [List.length_cons, List.getElem?_cons_succ] at h e ⊢
        have := ahead_more (c := c) (l := l) (k := k) (n := n) (by unfold aheadC; omega) e hn
        unfold aheadC at this
        omega
theorem ahead_stop {c : Nat} : ∀ {l : List Nat} {k : Nat}, k ≤ (aheadC c l).length → l[k]? = some c → k = (aheadC c l).length
  | [], k, h, e => by cases e
  | b :: l, k, h, e => by
    unfold aheadC at *
    by_cases hb : b = c
    · subst hb
      simpa using h
    · have hb' : (b != c) = true := by simpa using hb
      rw [List.takeWhile_cons_of_pos (p := fun n => n != c) hb'] at h ⊢
      cases k with
      | zero => simp at e; exact absurd e hb
      | succ k =>
        simp only [List.length_cons, List.getElem?_cons_succ] at h e ⊢
        have := ahead_stop (c := c) (l := l) (k := k) (by unfold aheadC; omega) e
        unfold aheadC at this
        omega
theorem ahead_take (c : Nat) (l : List Nat) : l.take (aheadC c l).length = aheadC c l := by
  unfold aheadC
  exact (List.prefix_iff_eq_take.1 (List.takeWhile_prefix _)).symm
theorem behind_drop (c : Nat) : ∀ l : List Nat, behindC c l = l.drop (min ((aheadC c l).length + 1) l.length)
  | [] => rfl
  | b :: l => by
    by_cases hb : b = c
    · subst hb; simp [behindC, aheadC]
    · have hb' : (b != c) = true := by simpa using hb
      have ih := behind_drop c l
      unfold behindC aheadC at *
      rw [List.takeWhile_cons_of_pos (p := fun n => n != c) hb', List.dropWhile_cons_of_pos (p := fun n => n != c) hb', ih]
      simp only [List.length_cons]
      rw [show min ((List.takeWhile (fun n => n != c) l).length + 1 + 1) (l.length + 1) = min ((List.takeWhile (fun n => n != c) l).length + 1) l.length + 1 by omega, List.drop_succ_cons]
/-- an int read, as a pair -/
def intE (r : Option Int) : Int := match r with | some _ => 0 | none => 2
theorem intV_eq (r : Option Int) : intV r = .tuple #[.int .i64 (r.getD 0), .int .i64 (intE r)] := by cases r <;> rfl
theorem int_wf (l : List Nat) : (Lit.int .i64 ((intN l).getD 0)).wf = true := by
  cases h : intN l with
  | none => exact wf_of (by simp) (by simp)
  | some v => have := intN_some h; exact wf_of this.1 this.2.1
theorem unq_err0 {l : List Nat} : ∀ (f i : Nat) (out : List Nat), (unq l f i out).2.2 ≠ 0 → (unq l f i out).1 = []
  | 0, i, out, h => rfl
  | f + 1, i, out, h => by
    unfold unq at h ⊢
    by_cases hi : l[i]? = some 34
    · rw [if_pos hi] at h; exact absurd rfl h
    · rw [if_neg hi] at h ⊢
      rcases ho : one (l.drop i) with ⟨_ | ⟨c, n⟩, far⟩
      · rfl
      · rw [ho] at h
        exact unq_err0 f (i + n) (out ++ [c]) h
theorem unq_err {l : List Nat} {y : List Nat} {k : Int} {er : Nat} (h : unquoteN l 0 = (y, k, er)) (he : er ≠ 0) : y = [] := by
  unfold unquoteN at h
  split at h
  · injection h with h1 h2; exact h1.symm
  · split at h
    · injection h with h1 h2; exact h1.symm
    · injection h with h1 h2
      injection h2 with h3 h4
      rw [← h1]
      exact unq_err0 _ _ _ (by rw [h4]; exact he)
theorem unq_small {l : List Nat} (hb : Bytes l) {y : List Nat} {k : Int} {er : Nat} (h : unquoteN l 0 = (y, k, er)) : y.length ≤ l.length + 1 := by
  by_cases he : er = 0
  · subst he
    obtain ⟨k', _, _, hk2, ht, _⟩ := unquote_ok hb h
    have h1 := congrArg List.length ht
    rw [List.length_take, quoteP_len] at h1
    have h2 := flatP_ge y
    omega
  · have := unq_err h he
    subst this
    simp
/-- what the document's read answers -/
def ReadK (w : World) (l : List Nat) (e : Ending) (w' : World) : Prop :=
  ∃ (op arg int : Int) (t : ByteArray) (b : Bool), e = .returned (.tuple #[.agg #[.int .i64 op, .int .i64 arg, .int .i64 int, .string t], .bool b]) ∧ Ins.ok ⟨op, arg, int, t⟩ ∧ Below w.heap.size w w' ∧ (b = true → readN l = some ⟨op, arg, int, t⟩) ∧ (b = false → readN l = none)
set_option maxRecDepth 100000 in
set_option maxHeartbeats 4000000 in
theorem read_any (l : List Nat) (hb : Bytes l) (hl : l.length ≤ 1048576) (w : World) : Calls Tryd.prog 33 #[.string (txt l)] w (ReadK w l) := by
  obtain ⟨n, hn⟩ : ∃ n, l.length = n := ⟨_, rfl⟩
  obtain ⟨A, hA⟩ : ∃ n, (aheadC 32 l).length = n := ⟨_, rfl⟩
  have hAn : A ≤ n := by rw [← hA, ← hn]; exact (ahead_len 32 l).1
  have hsz : ((txt l).size : Int) = (n : Int) := by rw [txt_size, hn]
  have hn2 : n ≤ 1048576 := by omega
  obtain ⟨wd, hwd⟩ : ∃ x, txt (aheadC 32 l) = x := ⟨_, rfl⟩
  obtain ⟨rest, hrest⟩ : ∃ x, behindC 32 l = x := ⟨_, rfl⟩
  have hrb : Bytes rest := by rw [← hrest]; exact (ahead_bytes hb).2
  have hrl : rest.length ≤ 1048576 := by rw [← hrest]; have := (ahead_len 32 l).2.1; omega
  have ex1 : (txt l).extract 0 A = wd := by rw [← hwd]; exact bs_inj (by rw [bs_extract, bs_txt hb, bs_txt (ahead_bytes hb).1, List.drop_zero, ← hA, ahead_take])
  obtain ⟨M, hM⟩ : ∃ x, min (A + 1) n = x := ⟨_, rfl⟩
  have ex2 : (txt l).extract M n = txt rest := bs_inj (by rw [bs_extract, bs_txt hb, bs_txt hrb, ← hrest, behind_drop, hA, hn, hM, List.take_of_length_le (by omega)])
  have Hn := Lib.hid hn
  have HA := Lib.hid hA
  have HB := Lib.hid hb
  have HWD := Lib.hid hwd
  have HRS := Lib.hid hrest
  have HRB := Lib.hid hrb
  have HRL := Lib.hid hrl
  have INS := Lib.hid (fun W => rins_any wd W)
  obtain ⟨op, hop⟩ : ∃ x, opR wd = x := ⟨_, rfl⟩
  rw [hop] at INS
  have HOP := Lib.hid hop
  have EX1 := Lib.hid ex1
  have EX2 := Lib.hid ex2
  have HM := Lib.hid hM
  clear hn hA hb hl hwd hrest hrb hrl hop ex1 ex2 hM
  go_enter Tryd.func33, Tryd.ntmps33
  go_upto_block 0 with fail
  go_cut [4] from 14 to 25 (fun v wx => v = .int .i64 (A : Int) ∧ wx = w.alloc (.cells #[.int .i64 0, .int .i64 0, .int .i64 0, .string ⟨#[]⟩] 46))
  case first =>
    go_wp2_with fail
    go_loopw [4] (fun j wr => ∃ k : Nat, k ≤ A ∧ j = .int .i64 (k : Int) ∧ wr = w.alloc (.cells #[.int .i64 0, .int .i64 0, .int .i64 0, .string ⟨#[]⟩] 46)) (fun j _ => n - (intOf j).toNat)
    case atStart => exact ⟨0, Nat.zero_le _, rfl, rfl⟩
    case round =>
      obtain ⟨k, hk, rfl, rfl⟩ := hrel
      by_cases hlt : k < n
      · obtain ⟨d, hd, d256⟩ := get_bs (s := txt l) (k := k) (by rw [txt_size, Hn.out]; exact hlt)
        have i1 := fun W => index_txt W 9 Tryd.underlying9 hd .i64 _ rfl
        rw [bs_txt HB.out] at hd
        by_cases hd32 : d = 32
        · subst hd32
          have hkA := ahead_stop (c := 32) (by rw [HA.out]; exact hk) hd
          rw [HA.out] at hkA
          subst hkA
          clear hd
          go_wp2_with fail
          go_meet
          first | exact ⟨rfl, rfl⟩ | exact ⟨rfl, trivial⟩
        · have e1 : ((d : Int) != 32) = true := by simp; omega
          have hm := ahead_more (c := 32) (by rw [HA.out]; exact hk) hd hd32
          rw [HA.out] at hm
          clear hd
          go_wp2_with fail
          go_roundw
          case rel => exact ⟨k + 1, hm, by go_num, by trivial⟩
          case measure => simp [intOf]; omega
      · have hkA : k = A := by omega
        have hdec : decide (k < n) = false := by simp; omega
        subst hkA
        go_wp2_with fail
        go_meet
        first | exact ⟨rfl, rfl⟩ | exact ⟨rfl, trivial⟩
  case rest =>
    obtain ⟨rfl, rfl⟩ := hcut
    rw [← EX1.out] at INS
    have ha1 : (A : Int) ≤ ((txt l).size : Int) := by rw [hsz]; omega
    have ex3 : (txt l).extract (min ((A : Int) + 1) (n : Int)).toNat (txt l).size = txt rest := by rw [← EX2.out, show (min ((A : Int) + 1) (n : Int)).toNat = M by have := HM.out; omega, show (txt l).size = n by omega]
    obtain ⟨hc, HAS, hcl⟩ : ∃ hc : ByteArray, Hid (∀ W, Calls Tryd.prog 40 #[.string ((txt l).extract 0 A)] W fun e w' => e = .returned (.string hc) ∧ Quiet W w') ∧ ((1 ≤ opN wd ∧ op = opN wd ∧ op ≤ 40 ∧ wordC op = wd ∧ hc = hasC op) ∨ (¬ 1 ≤ opN wd ∧ op = 0 ∧ hc = ⟨#[]⟩)) := by
      by_cases h1 : 1 ≤ opN wd
      · have h2 := op_word h1
        have h3 : op = opN wd := by rw [← HOP.out]; unfold opR; rw [if_pos h1]
        refine ⟨hasC op, Lib.hid (fun W => ?_), .inl ⟨h1, h3, by omega, by rw [h3]; exact h2.2, rfl⟩⟩
        have := has_any op (by omega) (by omega) W
        rw [EX1.out]
        rwa [show wordC op = wd by rw [h3]; exact h2.2] at this
      · refine ⟨⟨#[]⟩, Lib.hid (fun W => ?_), .inr ⟨h1, by rw [← HOP.out]; unfold opR; rw [if_neg h1], rfl⟩⟩
        rw [EX1.out]
        exact has_other wd h1 W
    have hopw : (Lit.int .i64 op).wf = true := by
      have := op_range wd
      rcases hcl with ⟨h1, h2, h3, _⟩ | ⟨h1, h2, _⟩
      · exact wf_of (by omega) (by omega)
      · exact wf_of (by omega) (by omega)
    have HWF := Lib.hid hopw
    have HCL := Lib.hid hcl
    clear hopw hcl
    go_upto_block 2 with (first
      | (go_at_call 55; go_must (refine (INS.out _).mono ?_); rintro e w2 ⟨rfl, hb⟩; have K2 := Lib.hid hb; clear hb)
      | (go_at_call 40; go_must (refine (HAS.out _).mono ?_); rintro e w3 ⟨rfl, nq, rfl⟩)
      | fail)
    try rw [ex3]
    generalize hV : World.drewN _ _ = w5
    have X5 : Blk w5 w2.heap.size 46 #[.int .i64 op, .int .i64 0, .int .i64 0, .string ⟨#[]⟩] := by rw [← hV]; exact Blk.drN (Blk.new w2 46 #[.int .i64 op, .int .i64 0, .int .i64 0, .string ⟨#[]⟩]) _
    have R5 : Blk w5 w.heap.size 46 #[.int .i64 0, .int .i64 0, .int .i64 0, .string ⟨#[]⟩] := by rw [← hV]; exact Blk.drN (((Blk.new w _ _).below K2.out (by simp)).alloc _) _
    have L5 : Below w.heap.size w w5 := by rw [← hV]; exact below_drewN ((((Below.refl _ _).alloc (Nat.le_refl _) (.cells #[.int .i64 0, .int .i64 0, .int .i64 0, .string ⟨#[]⟩] 46)).trans (K2.out.mono (by simp))).alloc (by have := K2.out.size; simp at this; omega) _) _
    have hrq : w.heap.size < w2.heap.size := by have := K2.out.size; simp at this; omega
    obtain ⟨q, hq⟩ : ∃ x, w2.heap.size = x := ⟨_, rfl⟩
    rw [hq] at X5 hrq ⊢
    have c0 : w5.cell? ⟨q, 0, none⟩ = some (.int .i64 op) := X5.cell rfl
    have c1 : w5.cell? ⟨q, 1, none⟩ = some (.int .i64 0) := X5.cell rfl
    have c2 : w5.cell? ⟨q, 2, none⟩ = some (.int .i64 0) := X5.cell rfl
    have c3 : w5.cell? ⟨q, 3, none⟩ = some (.string ⟨#[]⟩) := X5.cell rfl
    have f1 := X5.frozen 1
    have f2 := X5.frozen 2
    have f3 := X5.frozen 3
    have K5 := Lib.hid (And.intro X5 (And.intro R5 L5))
    clear hV X5 R5 L5 hq K2 INS HAS ex3 ha1
    go_cut [] from 40 to 74 (fun wx => ∃ (ax ix : Int) (tx : ByteArray), Hid (Blk wx q 46 #[.int .i64 op, .int .i64 ax, .int .i64 ix, .string tx] ∧ Blk wx w.heap.size 46 #[.int .i64 0, .int .i64 0, .int .i64 0, .string ⟨#[]⟩] ∧ Below w.heap.size w wx ∧ Ins.ok ⟨op, ax, ix, tx⟩ ∧ (1 ≤ opN wd → laysN op rest = ⟨op, ax, ix, tx⟩)))
    case first =>
      rcases HCL.out with ⟨-, -, -, -, rfl⟩ | ⟨hno, -, rfl⟩
      · rcases has_class op with ⟨-, hhc, hm⟩ | ⟨-, hhc, hm⟩ | ⟨-, hhc, hm⟩ | ⟨-, hhc, hm⟩ | ⟨-, hhc, hm⟩ | ⟨-, hhc, hm⟩ | ⟨-, hhc, hm⟩
        all_goals rw [hhc]
        all_goals have HM := Lib.hid hm
        all_goals clear hhc hm
        · have IN := Lib.hid (fun W => by have h := ref_int (txt rest) (by rw [txt_size]; have := HRL.out; omega) W; rw [bs_txt HRB.out, intV_eq] at h; exact h)
          have hiw := int_wf rest
          obtain ⟨v, hv⟩ : ∃ v, (intN rest).getD 0 = v := ⟨_, rfl⟩
          obtain ⟨er, her⟩ : ∃ v, intE (intN rest) = v := ⟨_, rfl⟩
          rw [hv] at hiw IN
          rw [her] at IN
          have HVV := Lib.hid hv
          have HIW := Lib.hid hiw
          clear hv hiw her
          go_wp2_with (first
            | (go_at_call 64; go_must (refine (IN.out _).mono ?_); rintro e w6 ⟨rfl, hb⟩; have K6 := Lib.hid (And.intro (K5.out.1.below hb K5.out.1.lt) (And.intro (K5.out.2.1.below hb K5.out.2.1.lt) (K5.out.2.2.trans (hb.mono K5.out.2.2.size)))); have d0 : w6.cell? ⟨q, 0, none⟩ = some (.int .i64 op) := K6.out.1.cell rfl; have d1 : w6.cell? ⟨q, 1, none⟩ = some (.int .i64 0) := K6.out.1.cell rfl; have d2 : w6.cell? ⟨q, 2, none⟩ = some (.int .i64 0) := K6.out.1.cell rfl; have d3 : w6.cell? ⟨q, 3, none⟩ = some (.string ⟨#[]⟩) := K6.out.1.cell rfl; have k1 := K6.out.1.frozen 1; have k2 := K6.out.1.frozen 2; have k3 := K6.out.1.frozen 3; clear hb)
            | fail)
          go_meet
          refine ⟨v, 0, ⟨#[]⟩, Lib.hid ⟨?_, ?_, ?_, ?_, ?_⟩⟩
          · have h := K6.out.1.set_ 1 (.int .i64 v); simpa using h
          · exact K6.out.2.1.far (p := ⟨q, 1, none⟩) (by show w.heap.size ≠ q; omega) _
          · exact K6.out.2.2.setCell (p := ⟨q, 1, none⟩) (by show w.heap.size ≤ q; omega) _
          · exact ok_of HWF.out HIW.out (wf_of (by omega) (by omega)) (by show 0 ≤ maxLen; omega)
          · intro _; unfold laysN; simp only [HM.out, HVV.out]
        · have IN := Lib.hid (fun W => by have h := ref_int (txt rest) (by rw [txt_size]; have := HRL.out; omega) W; rw [bs_txt HRB.out, intV_eq] at h; exact h)
          have hiw := int_wf rest
          obtain ⟨v, hv⟩ : ∃ v, (intN rest).getD 0 = v := ⟨_, rfl⟩
          obtain ⟨er, her⟩ : ∃ v, intE (intN rest) = v := ⟨_, rfl⟩
          rw [hv] at hiw IN
          rw [her] at IN
          have HVV := Lib.hid hv
          have HIW := Lib.hid hiw
          clear hv hiw her
          go_wp2_with (first
            | (go_at_call 64; go_must (refine (IN.out _).mono ?_); rintro e w6 ⟨rfl, hb⟩; have K6 := Lib.hid (And.intro (K5.out.1.below hb K5.out.1.lt) (And.intro (K5.out.2.1.below hb K5.out.2.1.lt) (K5.out.2.2.trans (hb.mono K5.out.2.2.size)))); have d0 : w6.cell? ⟨q, 0, none⟩ = some (.int .i64 op) := K6.out.1.cell rfl; have d1 : w6.cell? ⟨q, 1, none⟩ = some (.int .i64 0) := K6.out.1.cell rfl; have d2 : w6.cell? ⟨q, 2, none⟩ = some (.int .i64 0) := K6.out.1.cell rfl; have d3 : w6.cell? ⟨q, 3, none⟩ = some (.string ⟨#[]⟩) := K6.out.1.cell rfl; have k1 := K6.out.1.frozen 1; have k2 := K6.out.1.frozen 2; have k3 := K6.out.1.frozen 3; clear hb)
            | fail)
          go_meet
          refine ⟨v, 0, ⟨#[]⟩, Lib.hid ⟨?_, ?_, ?_, ?_, ?_⟩⟩
          · have h := K6.out.1.set_ 1 (.int .i64 v); simpa using h
          · exact K6.out.2.1.far (p := ⟨q, 1, none⟩) (by show w.heap.size ≠ q; omega) _
          · exact K6.out.2.2.setCell (p := ⟨q, 1, none⟩) (by show w.heap.size ≤ q; omega) _
          · exact ok_of HWF.out HIW.out (wf_of (by omega) (by omega)) (by show 0 ≤ maxLen; omega)
          · intro _; unfold laysN; simp only [HM.out, HVV.out]
        · have IN := Lib.hid (fun W => by have h := ref_int (txt rest) (by rw [txt_size]; have := HRL.out; omega) W; rw [bs_txt HRB.out, intV_eq] at h; exact h)
          have hiw := int_wf rest
          obtain ⟨v, hv⟩ : ∃ v, (intN rest).getD 0 = v := ⟨_, rfl⟩
          obtain ⟨er, her⟩ : ∃ v, intE (intN rest) = v := ⟨_, rfl⟩
          rw [hv] at hiw IN
          rw [her] at IN
          have HVV := Lib.hid hv
          have HIW := Lib.hid hiw
          clear hv hiw her
          go_wp2_with (first
            | (go_at_call 64; go_must (refine (IN.out _).mono ?_); rintro e w6 ⟨rfl, hb⟩; have K6 := Lib.hid (And.intro (K5.out.1.below hb K5.out.1.lt) (And.intro (K5.out.2.1.below hb K5.out.2.1.lt) (K5.out.2.2.trans (hb.mono K5.out.2.2.size)))); have d0 : w6.cell? ⟨q, 0, none⟩ = some (.int .i64 op) := K6.out.1.cell rfl; have d1 : w6.cell? ⟨q, 1, none⟩ = some (.int .i64 0) := K6.out.1.cell rfl; have d2 : w6.cell? ⟨q, 2, none⟩ = some (.int .i64 0) := K6.out.1.cell rfl; have d3 : w6.cell? ⟨q, 3, none⟩ = some (.string ⟨#[]⟩) := K6.out.1.cell rfl; have k1 := K6.out.1.frozen 1; have k2 := K6.out.1.frozen 2; have k3 := K6.out.1.frozen 3; clear hb)
            | fail)
          go_meet
          refine ⟨0, v, ⟨#[]⟩, Lib.hid ⟨?_, ?_, ?_, ?_, ?_⟩⟩
          · have h := K6.out.1.set_ 2 (.int .i64 v); simpa using h
          · exact K6.out.2.1.far (p := ⟨q, 2, none⟩) (by show w.heap.size ≠ q; omega) _
          · exact K6.out.2.2.setCell (p := ⟨q, 2, none⟩) (by show w.heap.size ≤ q; omega) _
          · exact ok_of HWF.out (wf_of (by omega) (by omega)) HIW.out (by show 0 ≤ maxLen; omega)
          · intro _; unfold laysN; simp only [HM.out, HVV.out]
        · rcases hu : unquoteN rest 0 with ⟨y, k, er⟩
          have hys := unq_small HRB.out hu
          have UN : Hid (∀ W, Calls Tryd.prog 65 #[.string (txt rest), .int .i64 0] W fun e w' => e = .returned (.tuple #[.string (txt y), .int .i64 k, .int .i64 (er : Int)]) ∧ Below W.heap.size W w') := Lib.hid (fun W => by have h := ref_unquote (txt rest) 0 (by decide) (by rw [txt_size]; exact HRL.out) W; rw [bs_txt HRB.out, hu] at h; exact h)
          have HU := Lib.hid hu
          have HYS := Lib.hid hys
          clear hu hys
          go_wp2_with (first
            | (go_at_call 65; go_must (refine (UN.out _).mono ?_); rintro e w6 ⟨rfl, hb⟩; have K6 := Lib.hid (And.intro (K5.out.1.below hb K5.out.1.lt) (And.intro (K5.out.2.1.below hb K5.out.2.1.lt) (K5.out.2.2.trans (hb.mono K5.out.2.2.size)))); have d0 : w6.cell? ⟨q, 0, none⟩ = some (.int .i64 op) := K6.out.1.cell rfl; have d1 : w6.cell? ⟨q, 1, none⟩ = some (.int .i64 0) := K6.out.1.cell rfl; have d2 : w6.cell? ⟨q, 2, none⟩ = some (.int .i64 0) := K6.out.1.cell rfl; have d3 : w6.cell? ⟨q, 3, none⟩ = some (.string ⟨#[]⟩) := K6.out.1.cell rfl; have k1 := K6.out.1.frozen 1; have k2 := K6.out.1.frozen 2; have k3 := K6.out.1.frozen 3; clear hb)
            | fail)
          go_meet
          refine ⟨0, 0, txt y, Lib.hid ⟨?_, ?_, ?_, ?_, ?_⟩⟩
          · have h := K6.out.1.set_ 3 (.string (txt y)); simpa using h
          · exact K6.out.2.1.far (p := ⟨q, 3, none⟩) (by show w.heap.size ≠ q; omega) _
          · exact K6.out.2.2.setCell (p := ⟨q, 3, none⟩) (by show w.heap.size ≤ q; omega) _
          · exact ok_of HWF.out (wf_of (by omega) (by omega)) (wf_of (by omega) (by omega)) (by rw [txt_size]; have := HYS.out; have := HRL.out; unfold maxLen; omega)
          · intro _; unfold laysN; simp only [HM.out, HU.out]
        · go_wp2_with fail
          go_meet
          refine ⟨0, 0, txt rest, Lib.hid ⟨?_, ?_, ?_, ?_, ?_⟩⟩
          · have h := K5.out.1.set_ 3 (.string (txt rest)); simpa using h
          · exact K5.out.2.1.far (p := ⟨q, 3, none⟩) (by show w.heap.size ≠ q; omega) _
          · exact K5.out.2.2.setCell (p := ⟨q, 3, none⟩) (by show w.heap.size ≤ q; omega) _
          · exact ok_of HWF.out (wf_of (by omega) (by omega)) (wf_of (by omega) (by omega)) (by rw [txt_size]; have := HRL.out; unfold maxLen; omega)
          · intro _; unfold laysN; simp only [HM.out]
        · have IN := Lib.hid (fun W => by have h := ref_int (txt rest) (by rw [txt_size]; have := HRL.out; omega) W; rw [bs_txt HRB.out, intV_eq] at h; exact h)
          have hiw := int_wf rest
          obtain ⟨v, hv⟩ : ∃ v, (intN rest).getD 0 = v := ⟨_, rfl⟩
          obtain ⟨er, her⟩ : ∃ v, intE (intN rest) = v := ⟨_, rfl⟩
          rw [hv] at hiw IN
          rw [her] at IN
          have HVV := Lib.hid hv
          have HIW := Lib.hid hiw
          clear hv hiw her
          go_wp2_with (first
            | (go_at_call 64; go_must (refine (IN.out _).mono ?_); rintro e w6 ⟨rfl, hb⟩; have K6 := Lib.hid (And.intro (K5.out.1.below hb K5.out.1.lt) (And.intro (K5.out.2.1.below hb K5.out.2.1.lt) (K5.out.2.2.trans (hb.mono K5.out.2.2.size)))); have d0 : w6.cell? ⟨q, 0, none⟩ = some (.int .i64 op) := K6.out.1.cell rfl; have d1 : w6.cell? ⟨q, 1, none⟩ = some (.int .i64 0) := K6.out.1.cell rfl; have d2 : w6.cell? ⟨q, 2, none⟩ = some (.int .i64 0) := K6.out.1.cell rfl; have d3 : w6.cell? ⟨q, 3, none⟩ = some (.string ⟨#[]⟩) := K6.out.1.cell rfl; have k1 := K6.out.1.frozen 1; have k2 := K6.out.1.frozen 2; have k3 := K6.out.1.frozen 3; clear hb)
            | fail)
          go_meet
          refine ⟨v, 0, ⟨#[]⟩, Lib.hid ⟨?_, ?_, ?_, ?_, ?_⟩⟩
          · have h := K6.out.1.set_ 1 (.int .i64 v); simpa using h
          · exact K6.out.2.1.far (p := ⟨q, 1, none⟩) (by show w.heap.size ≠ q; omega) _
          · exact K6.out.2.2.setCell (p := ⟨q, 1, none⟩) (by show w.heap.size ≤ q; omega) _
          · exact ok_of HWF.out HIW.out (wf_of (by omega) (by omega)) (by show 0 ≤ maxLen; omega)
          · intro _; unfold laysN; simp only [HM.out, HVV.out]
        · go_wp2_with fail
          go_meet
          exact ⟨0, 0, ⟨#[]⟩, Lib.hid ⟨K5.out.1, K5.out.2.1, K5.out.2.2, ok_of HWF.out (wf_of (by omega) (by omega)) (wf_of (by omega) (by omega)) (by show 0 ≤ maxLen; omega), fun h => by unfold laysN; simp only [HM.out]⟩⟩
      · go_wp2_with fail
        go_meet
        exact ⟨0, 0, ⟨#[]⟩, Lib.hid ⟨K5.out.1, K5.out.2.1, K5.out.2.2, ok_of HWF.out (wf_of (by omega) (by omega)) (wf_of (by omega) (by omega)) (by show 0 ≤ maxLen; omega), fun h => absurd h (by omega)⟩⟩

    case rest =>
      obtain ⟨ax, ix, tx, K7⟩ := hcut
      obtain ⟨r0, hr0⟩ : ∃ x, w.heap.size = x := ⟨_, rfl⟩
      have HB7 := Lib.hid K7.out.2.2.1
      rw [hr0] at K7 hrq ⊢
      have hr0w : w.heap.size ≤ r0 := by omega
      clear hr0
      have hpos : 0 < op ↔ 1 ≤ opN wd := by
        rcases HCL.out with ⟨h1, h2, _⟩ | ⟨h1, h2, _⟩
        · omega
        · omega
      obtain ⟨line, hline⟩ : ∃ x, txt (lineC ⟨op, ax, ix, tx⟩) = x := ⟨_, rfl⟩
      by_cases h1 : 1 ≤ opN wd
      · have hlay := K7.out.2.2.2.2 h1
        have hopn : op = opN wd := by rcases HCL.out with ⟨_, h2, _⟩ | ⟨h2, _⟩; exact h2; omega
        have hlaw := read_law HB.out (by rw [HWD.out]; exact h1)
        rw [HWD.out, HRS.out, ← hopn, hlay] at hlaw
        have HPOS := Lib.hid (decide_eq_true (hpos.2 h1))
        have hop0 : 0 < op := hpos.2 h1
        by_cases hp : plainN ⟨op, ax, ix, tx⟩ = true
        · have PL : Hid (∀ W, Calls Tryd.prog 20 #[.agg #[.int .i64 op, .int .i64 ax, .int .i64 ix, .string tx]] W fun e w' => e = .returned (.bool true) ∧ Below W.heap.size W w') := Lib.hid (fun W => by have h := rplain_any ⟨op, ax, ix, tx⟩ K7.out.2.2.2.1 W; rw [hp] at h; exact h)
          have LN : Hid (∀ W, Calls Tryd.prog 26 #[.agg #[.int .i64 op, .int .i64 ax, .int .i64 ix, .string tx]] W fun e w' => e = .returned (.string line) ∧ Below W.heap.size W w') := Lib.hid (fun W => by have h := rline_any ⟨op, ax, ix, tx⟩ K7.out.2.2.2.1 hp W; rw [hline] at h; exact h)
          obtain ⟨b2, hb2⟩ : ∃ b, (line.toList == (txt l).toList) = b := ⟨_, rfl⟩
          have hline2 : b2 = true ↔ lineC ⟨op, ax, ix, tx⟩ = l := by
            rw [← hb2, beq_text, decide_eq_true_iff, ← hline]
            constructor
            · intro h
              have := congrArg bs h
              rwa [bs_txt HB.out, bs_txt (line_small K7.out.2.2.2.1 hp).2] at this
            · intro h; rw [h]
          have HB2 := Lib.hid hb2
          have HY : Hid ((true && true && b2) = true → readN l = some ⟨op, ax, ix, tx⟩) := Lib.hid (fun h => hlaw.1 ⟨hp, hline2.1 (by simpa using h)⟩)
          have HNN : Hid ((true && true && b2) = false → readN l = none) := Lib.hid (fun h => hlaw.2 (fun h' => by have := hline2.2 h'.2; rw [this] at h; simp at h))
          clear hlaw hlay hpos hline hb2 hline2 hopn h1 hp
          go_wp2_with fail
          refine wp_region_closed (by kernel_rfl) (R20 w r0 q 46 #[.int .i64 op, .int .i64 ax, .int .i64 ix, .string tx] #[.int .i64 0, .int .i64 0, .int .i64 0, .string ⟨#[]⟩] (.agg #[.int .i64 op, .int .i64 ax, .int .i64 ix, .string tx]) op (txt l) line true true b2) (by kernel_rfl) ?_ ?_ ?_
          · exact R20.start rfl rfl rfl rfl rfl K7.out.1 K7.out.2.1 HB7.out.drew
          · intro L a w k hcl hI hk hu hdep
            have hk : k < 16 := hk
            have HI := Lib.hid hI
            have HU := Lib.hid hu
            have hsz := hI.asz
            clear hcl hI hu
            rcases (by omega : k = 0 ∨ k = 1 ∨ k = 2 ∨ k = 3 ∨ k = 4 ∨ k = 5 ∨ k = 6 ∨ k = 7 ∨ k = 8 ∨ k = 9 ∨ k = 10 ∨ k = 11 ∨ k = 12 ∨ k = 13 ∨ k = 14 ∨ k = 15) with rfl | rfl | rfl | rfl | rfl | rfl | rfl | rfl | rfl | rfl | rfl | rfl | rfl | rfl | rfl | rfl
            · have e5 := slotAt HI.out.t5
              have m0 : w.cell? ⟨q, 0, none⟩ = some (.int .i64 op) := HI.out.bx.cell rfl
              have m1 : w.cell? ⟨q, 1, none⟩ = some (.int .i64 ax) := HI.out.bx.cell rfl
              have m2 : w.cell? ⟨q, 2, none⟩ = some (.int .i64 ix) := HI.out.bx.cell rfl
              have m3 : w.cell? ⟨q, 3, none⟩ = some (.string tx) := HI.out.bx.cell rfl
              refine wpOp_plain (o := _) rfl rfl ?_
              go_simp
              exact HI.out.step 0 rfl (Below.refl _ _)
            · have e5 := slotAt HI.out.t5
              refine wpOp_plain (o := _) rfl rfl ?_
              go_simp
              exact HI.out.step 1 rfl (Below.refl _ _)
            · have hd1 : L.getD 1 false = true := hdep 1 (by kernel_rfl)
              have e76 := slotAt (HI.out.fx 1 _ rfl hd1)
              have m0 : w.cell? ⟨q, 0, none⟩ = some (.int .i64 op) := HI.out.bx.cell rfl
              refine wpOp_plain (o := _) rfl rfl ?_
              go_simp
              exact HI.out.step 2 rfl (Below.refl _ _)
            · have hd2 : L.getD 2 false = true := hdep 2 (by kernel_rfl)
              have e77 := slotAt (HI.out.fx 2 _ rfl hd2)
              refine wpOp_plain (o := _) rfl rfl ?_
              go_simp
              first | exact HI.out.step 3 rfl (Below.refl _ _) | (rw [HPOS.out]; exact HI.out.step 3 rfl (Below.refl _ _))
            · have hd3 : L.getD 3 false = true := hdep 3 (by kernel_rfl)
              have e78 := slotAt (HI.out.fx 3 _ rfl hd3)
              refine wpOp_plain (o := _) rfl rfl ?_
              go_simp
              exact HI.out.step 4 rfl (Below.refl _ _)
            · have hd4 : L.getD 4 false = true := hdep 4 (by kernel_rfl)
              have e5 := slotAt HI.out.t5
              have m0 : w.cell? ⟨q, 0, none⟩ = some (.int .i64 op) := HI.out.bx.cell rfl
              have m1 : w.cell? ⟨q, 1, none⟩ = some (.int .i64 ax) := HI.out.bx.cell rfl
              have m2 : w.cell? ⟨q, 2, none⟩ = some (.int .i64 ix) := HI.out.bx.cell rfl
              have m3 : w.cell? ⟨q, 3, none⟩ = some (.string tx) := HI.out.bx.cell rfl
              refine wpOp_yes (o := _) rfl (wanted_of (want := true) rfl (yield_of (o := _) (d := 79) rfl rfl (HI.out.fx 4 _ rfl hd4) (by rw [hsz]; decide))) ?_
              go_simp
              exact HI.out.step 5 rfl (Below.refl _ _)
            · have hd4 : L.getD 4 false = true := hdep 4 (by kernel_rfl)
              have hd5 : L.getD 5 false = true := hdep 5 (by kernel_rfl)
              have e80 := slotAt (HI.out.fx 5 _ rfl hd5)
              refine wpOp_yes (o := _) rfl (wanted_of (want := true) rfl (yield_of (o := _) (d := 79) rfl rfl (HI.out.fx 4 _ rfl hd4) (by rw [hsz]; decide))) ?_
              go_simp
              refine (PL.out _).mono ?_
              rintro e w' ⟨rfl, hb⟩
              exact HI.out.step 6 rfl hb
            · have hd4 : L.getD 4 false = true := hdep 4 (by kernel_rfl)
              have hd6 : L.getD 6 false = true := hdep 6 (by kernel_rfl)
              have e79 := slotAt (HI.out.fx 4 _ rfl hd4)
              have e81 := slotAt (HI.out.fx 6 _ rfl hd6)
              refine wpOp_plain (o := _) rfl rfl ?_
              go_simp
              exact HI.out.step 7 rfl (Below.refl _ _)
            · have hd7 : L.getD 7 false = true := hdep 7 (by kernel_rfl)
              have e82 := slotAt (HI.out.fx 7 _ rfl hd7)
              refine wpOp_plain (o := _) rfl rfl ?_
              go_simp
              exact HI.out.step 8 rfl (Below.refl _ _)
            · have hd8 : L.getD 8 false = true := hdep 8 (by kernel_rfl)
              have e5 := slotAt HI.out.t5
              have m0 : w.cell? ⟨q, 0, none⟩ = some (.int .i64 op) := HI.out.bx.cell rfl
              have m1 : w.cell? ⟨q, 1, none⟩ = some (.int .i64 ax) := HI.out.bx.cell rfl
              have m2 : w.cell? ⟨q, 2, none⟩ = some (.int .i64 ix) := HI.out.bx.cell rfl
              have m3 : w.cell? ⟨q, 3, none⟩ = some (.string tx) := HI.out.bx.cell rfl
              refine wpOp_yes (o := _) rfl (wanted_of (want := true) rfl (yield_of (o := _) (d := 83) rfl rfl (HI.out.fx 8 _ rfl hd8) (by rw [hsz]; decide))) ?_
              go_simp
              exact HI.out.step 9 rfl (Below.refl _ _)
            · have hd8 : L.getD 8 false = true := hdep 8 (by kernel_rfl)
              have hd9 : L.getD 9 false = true := hdep 9 (by kernel_rfl)
              have e84 := slotAt (HI.out.fx 9 _ rfl hd9)
              refine wpOp_yes (o := _) rfl (wanted_of (want := true) rfl (yield_of (o := _) (d := 83) rfl rfl (HI.out.fx 8 _ rfl hd8) (by rw [hsz]; decide))) ?_
              go_simp
              refine (LN.out _).mono ?_
              rintro e w' ⟨rfl, hb⟩
              exact HI.out.step 10 rfl hb
            · have hd8 : L.getD 8 false = true := hdep 8 (by kernel_rfl)
              have e0 := slotAt HI.out.t0
              refine wpOp_yes (o := _) rfl (wanted_of (want := true) rfl (yield_of (o := _) (d := 83) rfl rfl (HI.out.fx 8 _ rfl hd8) (by rw [hsz]; decide))) ?_
              go_simp
              exact HI.out.step 11 rfl (Below.refl _ _)
            · have hd8 : L.getD 8 false = true := hdep 8 (by kernel_rfl)
              have hd10 : L.getD 10 false = true := hdep 10 (by kernel_rfl)
              have hd11 : L.getD 11 false = true := hdep 11 (by kernel_rfl)
              have e85 := slotAt (HI.out.fx 10 _ rfl hd10)
              have e86 := slotAt (HI.out.fx 11 _ rfl hd11)
              refine wpOp_yes (o := _) rfl (wanted_of (want := true) rfl (yield_of (o := _) (d := 83) rfl rfl (HI.out.fx 8 _ rfl hd8) (by rw [hsz]; decide))) ?_
              go_simp
              rw [HB2.out]
              exact HI.out.step 12 rfl (Below.refl _ _)
            · have hd8 : L.getD 8 false = true := hdep 8 (by kernel_rfl)
              have hd12 : L.getD 12 false = true := hdep 12 (by kernel_rfl)
              have e83 := slotAt (HI.out.fx 8 _ rfl hd8)
              have e87 := slotAt (HI.out.fx 12 _ rfl hd12)
              refine wpOp_plain (o := _) rfl rfl ?_
              go_simp
              exact HI.out.step 13 rfl (Below.refl _ _)
            · have hd0 : L.getD 0 false = true := hdep 0 (by kernel_rfl)
              have e75 := slotAt (HI.out.fx 0 _ rfl hd0)
              have hr0 := HI.out.br
              rw [HU.out] at hr0
              have hr : Blk w r0 46 #[.int .i64 0, .int .i64 0, .int .i64 0, .string ⟨#[]⟩] := hr0
              clear hr0
              have e2 := slotAt HI.out.t2
              have m0 : w.cell? ⟨r0, 0, none⟩ = some (.int .i64 0) := hr.cell rfl
              have f0 := hr.frozen 0
              have m1 : w.cell? ⟨r0, 1, none⟩ = some (.int .i64 0) := hr.cell rfl
              have f1 := hr.frozen 1
              have m2 : w.cell? ⟨r0, 2, none⟩ = some (.int .i64 0) := hr.cell rfl
              have f2 := hr.frozen 2
              have m3 : w.cell? ⟨r0, 3, none⟩ = some (.string ⟨#[]⟩) := hr.cell rfl
              have f3 := hr.frozen 3
              have HR := Lib.hid hr
              clear hr
              refine wpOp_plain (o := _) rfl rfl ?_
              go_simp
              exact HI.out.store HU.out ((((HI.out.bx.far (p := ⟨r0, 0, none⟩) (by show q ≠ r0; omega) (.int .i64 op)).far (p := ⟨r0, 1, none⟩) (by show q ≠ r0; omega) (.int .i64 ax)).far (p := ⟨r0, 2, none⟩) (by show q ≠ r0; omega) (.int .i64 ix)).far (p := ⟨r0, 3, none⟩) (by show q ≠ r0; omega) (.string tx)) (by have h := ((((HR.out.set_ 0 (.int .i64 op)).set_ 1 (.int .i64 ax)).set_ 2 (.int .i64 ix)).set_ 3 (.string tx)); simpa using h) ((((HI.out.bel.setCell (p := ⟨r0, 0, none⟩) hr0w (.int .i64 op)).setCell (p := ⟨r0, 1, none⟩) hr0w (.int .i64 ax)).setCell (p := ⟨r0, 2, none⟩) hr0w (.int .i64 ix)).setCell (p := ⟨r0, 3, none⟩) hr0w (.string tx))
            · have hd13 : L.getD 13 false = true := hdep 13 (by kernel_rfl)
              have e88 := slotAt (HI.out.fx 13 _ rfl hd13)
              refine wpOp_plain (o := _) rfl rfl ?_
              go_simp
              exact HI.out.last
          · intro L a w hI hall
            have h14 := hall 14 (by decide)
            have h15 := hall 15 (by decide)
            have e3 := slotAt (hI.fin h15)
            have e2 := slotAt hI.t2
            have hsz := hI.asz
            have hdf := hI.dfs
            have hbr := hI.br
            rw [h14] at hbr
            have hbr2 : Blk w r0 46 #[.int .i64 op, .int .i64 ax, .int .i64 ix, .string tx] := hbr
            have m0 : w.cell? ⟨r0, 0, none⟩ = some (.int .i64 op) := hbr2.cell rfl
            have m1 : w.cell? ⟨r0, 1, none⟩ = some (.int .i64 ax) := hbr2.cell rfl
            have m2 : w.cell? ⟨r0, 2, none⟩ = some (.int .i64 ix) := hbr2.cell rfl
            have m3 : w.cell? ⟨r0, 3, none⟩ = some (.string tx) := hbr2.cell rfl
            have HBL := Lib.hid hI.bel
            clear hI hall h14 h15 hbr hbr2
            go_wp2_with fail
            refine bodyPost_ret (v := .tuple #[.agg #[.int .i64 op, .int .i64 ax, .int .i64 ix, .string tx], .bool (true && true && b2)]) (by simp [results, Tryd.results33, go_sem, e3, e2, hsz, m0, m1, m2, m3]) hdf ?_
            refine ⟨op, ax, ix, tx, _, rfl, K7.out.2.2.2.1, HBL.out, HY.out, HNN.out⟩
        · have hpf : plainN ⟨op, ax, ix, tx⟩ = false := by simpa using hp
          have PL : Hid (∀ W, Calls Tryd.prog 20 #[.agg #[.int .i64 op, .int .i64 ax, .int .i64 ix, .string tx]] W fun e w' => e = .returned (.bool false) ∧ Below W.heap.size W w') := Lib.hid (fun W => by have h := rplain_any ⟨op, ax, ix, tx⟩ K7.out.2.2.2.1 W; rw [hpf] at h; exact h)
          have HNN := Lib.hid (hlaw.2 (fun h => hp h.1))
          clear hlaw hlay hpos hline hopn h1 hp hpf
          go_wp2_with fail
          refine wp_region_closed (by kernel_rfl) (R20 w r0 q 46 #[.int .i64 op, .int .i64 ax, .int .i64 ix, .string tx] #[.int .i64 0, .int .i64 0, .int .i64 0, .string ⟨#[]⟩] (.agg #[.int .i64 op, .int .i64 ax, .int .i64 ix, .string tx]) op (txt l) line true false false) (by kernel_rfl) ?_ ?_ ?_
          · exact R20.start rfl rfl rfl rfl rfl K7.out.1 K7.out.2.1 HB7.out.drew
          · intro L a w k hcl hI hk hu hdep
            have hk : k < 16 := hk
            have HI := Lib.hid hI
            have HU := Lib.hid hu
            have hsz := hI.asz
            clear hcl hI hu
            rcases (by omega : k = 0 ∨ k = 1 ∨ k = 2 ∨ k = 3 ∨ k = 4 ∨ k = 5 ∨ k = 6 ∨ k = 7 ∨ k = 8 ∨ k = 9 ∨ k = 10 ∨ k = 11 ∨ k = 12 ∨ k = 13 ∨ k = 14 ∨ k = 15) with rfl | rfl | rfl | rfl | rfl | rfl | rfl | rfl | rfl | rfl | rfl | rfl | rfl | rfl | rfl | rfl
            · have e5 := slotAt HI.out.t5
              have m0 : w.cell? ⟨q, 0, none⟩ = some (.int .i64 op) := HI.out.bx.cell rfl
              have m1 : w.cell? ⟨q, 1, none⟩ = some (.int .i64 ax) := HI.out.bx.cell rfl
              have m2 : w.cell? ⟨q, 2, none⟩ = some (.int .i64 ix) := HI.out.bx.cell rfl
              have m3 : w.cell? ⟨q, 3, none⟩ = some (.string tx) := HI.out.bx.cell rfl
              refine wpOp_plain (o := _) rfl rfl ?_
              go_simp
              exact HI.out.step 0 rfl (Below.refl _ _)
            · have e5 := slotAt HI.out.t5
              refine wpOp_plain (o := _) rfl rfl ?_
              go_simp
              exact HI.out.step 1 rfl (Below.refl _ _)
            · have hd1 : L.getD 1 false = true := hdep 1 (by kernel_rfl)
              have e76 := slotAt (HI.out.fx 1 _ rfl hd1)
              have m0 : w.cell? ⟨q, 0, none⟩ = some (.int .i64 op) := HI.out.bx.cell rfl
              refine wpOp_plain (o := _) rfl rfl ?_
              go_simp
              exact HI.out.step 2 rfl (Below.refl _ _)
            · have hd2 : L.getD 2 false = true := hdep 2 (by kernel_rfl)
              have e77 := slotAt (HI.out.fx 2 _ rfl hd2)
              refine wpOp_plain (o := _) rfl rfl ?_
              go_simp
              first | exact HI.out.step 3 rfl (Below.refl _ _) | (rw [HPOS.out]; exact HI.out.step 3 rfl (Below.refl _ _))
            · have hd3 : L.getD 3 false = true := hdep 3 (by kernel_rfl)
              have e78 := slotAt (HI.out.fx 3 _ rfl hd3)
              refine wpOp_plain (o := _) rfl rfl ?_
              go_simp
              exact HI.out.step 4 rfl (Below.refl _ _)
            · have hd4 : L.getD 4 false = true := hdep 4 (by kernel_rfl)
              have e5 := slotAt HI.out.t5
              have m0 : w.cell? ⟨q, 0, none⟩ = some (.int .i64 op) := HI.out.bx.cell rfl
              have m1 : w.cell? ⟨q, 1, none⟩ = some (.int .i64 ax) := HI.out.bx.cell rfl
              have m2 : w.cell? ⟨q, 2, none⟩ = some (.int .i64 ix) := HI.out.bx.cell rfl
              have m3 : w.cell? ⟨q, 3, none⟩ = some (.string tx) := HI.out.bx.cell rfl
              refine wpOp_yes (o := _) rfl (wanted_of (want := true) rfl (yield_of (o := _) (d := 79) rfl rfl (HI.out.fx 4 _ rfl hd4) (by rw [hsz]; decide))) ?_
              go_simp
              exact HI.out.step 5 rfl (Below.refl _ _)
            · have hd4 : L.getD 4 false = true := hdep 4 (by kernel_rfl)
              have hd5 : L.getD 5 false = true := hdep 5 (by kernel_rfl)
              have e80 := slotAt (HI.out.fx 5 _ rfl hd5)
              refine wpOp_yes (o := _) rfl (wanted_of (want := true) rfl (yield_of (o := _) (d := 79) rfl rfl (HI.out.fx 4 _ rfl hd4) (by rw [hsz]; decide))) ?_
              go_simp
              refine (PL.out _).mono ?_
              rintro e w' ⟨rfl, hb⟩
              exact HI.out.step 6 rfl hb
            · have hd4 : L.getD 4 false = true := hdep 4 (by kernel_rfl)
              have hd6 : L.getD 6 false = true := hdep 6 (by kernel_rfl)
              have e79 := slotAt (HI.out.fx 4 _ rfl hd4)
              have e81 := slotAt (HI.out.fx 6 _ rfl hd6)
              refine wpOp_plain (o := _) rfl rfl ?_
              go_simp
              exact HI.out.step 7 rfl (Below.refl _ _)
            · have hd7 : L.getD 7 false = true := hdep 7 (by kernel_rfl)
              have e82 := slotAt (HI.out.fx 7 _ rfl hd7)
              refine wpOp_plain (o := _) rfl rfl ?_
              go_simp
              exact HI.out.step 8 rfl (Below.refl _ _)
            · have hd8 : L.getD 8 false = true := hdep 8 (by kernel_rfl)
              refine wpOp_no (o := _) rfl (wanted_of (want := true) rfl (yield_of (o := _) (d := 83) rfl rfl (HI.out.fx 8 _ rfl hd8) (by rw [hsz]; decide))) ?_
              exact HI.out.step 9 rfl (Below.refl _ _)
            · have hd8 : L.getD 8 false = true := hdep 8 (by kernel_rfl)
              have hd9 : L.getD 9 false = true := hdep 9 (by kernel_rfl)
              refine wpOp_no (o := _) rfl (wanted_of (want := true) rfl (yield_of (o := _) (d := 83) rfl rfl (HI.out.fx 8 _ rfl hd8) (by rw [hsz]; decide))) ?_
              exact HI.out.step 10 rfl (Below.refl _ _)
            · have hd8 : L.getD 8 false = true := hdep 8 (by kernel_rfl)
              refine wpOp_no (o := _) rfl (wanted_of (want := true) rfl (yield_of (o := _) (d := 83) rfl rfl (HI.out.fx 8 _ rfl hd8) (by rw [hsz]; decide))) ?_
              exact HI.out.step 11 rfl (Below.refl _ _)
            · have hd8 : L.getD 8 false = true := hdep 8 (by kernel_rfl)
              have hd10 : L.getD 10 false = true := hdep 10 (by kernel_rfl)
              have hd11 : L.getD 11 false = true := hdep 11 (by kernel_rfl)
              refine wpOp_no (o := _) rfl (wanted_of (want := true) rfl (yield_of (o := _) (d := 83) rfl rfl (HI.out.fx 8 _ rfl hd8) (by rw [hsz]; decide))) ?_
              exact HI.out.step 12 rfl (Below.refl _ _)
            · have hd8 : L.getD 8 false = true := hdep 8 (by kernel_rfl)
              have hd12 : L.getD 12 false = true := hdep 12 (by kernel_rfl)
              have e83 := slotAt (HI.out.fx 8 _ rfl hd8)
              have e87 := slotAt (HI.out.fx 12 _ rfl hd12)
              refine wpOp_plain (o := _) rfl rfl ?_
              go_simp
              exact HI.out.step 13 rfl (Below.refl _ _)
            · have hd0 : L.getD 0 false = true := hdep 0 (by kernel_rfl)
              have e75 := slotAt (HI.out.fx 0 _ rfl hd0)
              have hr0 := HI.out.br
              rw [HU.out] at hr0
              have hr : Blk w r0 46 #[.int .i64 0, .int .i64 0, .int .i64 0, .string ⟨#[]⟩] := hr0
              clear hr0
              have e2 := slotAt HI.out.t2
              have m0 : w.cell? ⟨r0, 0, none⟩ = some (.int .i64 0) := hr.cell rfl
              have f0 := hr.frozen 0
              have m1 : w.cell? ⟨r0, 1, none⟩ = some (.int .i64 0) := hr.cell rfl
              have f1 := hr.frozen 1
              have m2 : w.cell? ⟨r0, 2, none⟩ = some (.int .i64 0) := hr.cell rfl
              have f2 := hr.frozen 2
              have m3 : w.cell? ⟨r0, 3, none⟩ = some (.string ⟨#[]⟩) := hr.cell rfl
              have f3 := hr.frozen 3
              have HR := Lib.hid hr
              clear hr
              refine wpOp_plain (o := _) rfl rfl ?_
              go_simp
              exact HI.out.store HU.out ((((HI.out.bx.far (p := ⟨r0, 0, none⟩) (by show q ≠ r0; omega) (.int .i64 op)).far (p := ⟨r0, 1, none⟩) (by show q ≠ r0; omega) (.int .i64 ax)).far (p := ⟨r0, 2, none⟩) (by show q ≠ r0; omega) (.int .i64 ix)).far (p := ⟨r0, 3, none⟩) (by show q ≠ r0; omega) (.string tx)) (by have h := ((((HR.out.set_ 0 (.int .i64 op)).set_ 1 (.int .i64 ax)).set_ 2 (.int .i64 ix)).set_ 3 (.string tx)); simpa using h) ((((HI.out.bel.setCell (p := ⟨r0, 0, none⟩) hr0w (.int .i64 op)).setCell (p := ⟨r0, 1, none⟩) hr0w (.int .i64 ax)).setCell (p := ⟨r0, 2, none⟩) hr0w (.int .i64 ix)).setCell (p := ⟨r0, 3, none⟩) hr0w (.string tx))
            · have hd13 : L.getD 13 false = true := hdep 13 (by kernel_rfl)
              have e88 := slotAt (HI.out.fx 13 _ rfl hd13)
              refine wpOp_plain (o := _) rfl rfl ?_
              go_simp
              exact HI.out.last
          · intro L a w hI hall
            have h14 := hall 14 (by decide)
            have h15 := hall 15 (by decide)
            have e3 := slotAt (hI.fin h15)
            have e2 := slotAt hI.t2
            have hsz := hI.asz
            have hdf := hI.dfs
            have hbr := hI.br
            rw [h14] at hbr
            have hbr2 : Blk w r0 46 #[.int .i64 op, .int .i64 ax, .int .i64 ix, .string tx] := hbr
            have m0 : w.cell? ⟨r0, 0, none⟩ = some (.int .i64 op) := hbr2.cell rfl
            have m1 : w.cell? ⟨r0, 1, none⟩ = some (.int .i64 ax) := hbr2.cell rfl
            have m2 : w.cell? ⟨r0, 2, none⟩ = some (.int .i64 ix) := hbr2.cell rfl
            have m3 : w.cell? ⟨r0, 3, none⟩ = some (.string tx) := hbr2.cell rfl
            have HBL := Lib.hid hI.bel
            clear hI hall h14 h15 hbr hbr2
            go_wp2_with fail
            refine bodyPost_ret (v := .tuple #[.agg #[.int .i64 op, .int .i64 ax, .int .i64 ix, .string tx], .bool (true && false && false)]) (by simp [results, Tryd.results33, go_sem, e3, e2, hsz, m0, m1, m2, m3]) hdf ?_
            refine ⟨op, ax, ix, tx, _, rfl, K7.out.2.2.2.1, HBL.out, (fun h => by simp at h), fun _ => HNN.out⟩
      · have HPOS := Lib.hid (decide_eq_false (fun h => h1 (hpos.1 h)))
        have hop0 : ¬ 0 < op := fun h => h1 (hpos.1 h)
        have HNN : Hid (readN l = none) := Lib.hid (read_none (by rw [HWD.out]; exact h1))
        clear hpos hline h1
        go_wp2_with fail
        refine wp_region_closed (by kernel_rfl) (R20 w r0 q 46 #[.int .i64 op, .int .i64 ax, .int .i64 ix, .string tx] #[.int .i64 0, .int .i64 0, .int .i64 0, .string ⟨#[]⟩] (.agg #[.int .i64 op, .int .i64 ax, .int .i64 ix, .string tx]) op (txt l) line false false false) (by kernel_rfl) ?_ ?_ ?_
        · exact R20.start rfl rfl rfl rfl rfl K7.out.1 K7.out.2.1 HB7.out.drew
        · intro L a w k hcl hI hk hu hdep
          have hk : k < 16 := hk
          have HI := Lib.hid hI
          have HU := Lib.hid hu
          have hsz := hI.asz
          clear hcl hI hu
          rcases (by omega : k = 0 ∨ k = 1 ∨ k = 2 ∨ k = 3 ∨ k = 4 ∨ k = 5 ∨ k = 6 ∨ k = 7 ∨ k = 8 ∨ k = 9 ∨ k = 10 ∨ k = 11 ∨ k = 12 ∨ k = 13 ∨ k = 14 ∨ k = 15) with rfl | rfl | rfl | rfl | rfl | rfl | rfl | rfl | rfl | rfl | rfl | rfl | rfl | rfl | rfl | rfl
          · have e5 := slotAt HI.out.t5
            have m0 : w.cell? ⟨q, 0, none⟩ = some (.int .i64 op) := HI.out.bx.cell rfl
            have m1 : w.cell? ⟨q, 1, none⟩ = some (.int .i64 ax) := HI.out.bx.cell rfl
            have m2 : w.cell? ⟨q, 2, none⟩ = some (.int .i64 ix) := HI.out.bx.cell rfl
            have m3 : w.cell? ⟨q, 3, none⟩ = some (.string tx) := HI.out.bx.cell rfl
            refine wpOp_plain (o := _) rfl rfl ?_
            go_simp
            exact HI.out.step 0 rfl (Below.refl _ _)
          · have e5 := slotAt HI.out.t5
            refine wpOp_plain (o := _) rfl rfl ?_
            go_simp
            exact HI.out.step 1 rfl (Below.refl _ _)
          · have hd1 : L.getD 1 false = true := hdep 1 (by kernel_rfl)
            have e76 := slotAt (HI.out.fx 1 _ rfl hd1)
            have m0 : w.cell? ⟨q, 0, none⟩ = some (.int .i64 op) := HI.out.bx.cell rfl
            refine wpOp_plain (o := _) rfl rfl ?_
            go_simp
            exact HI.out.step 2 rfl (Below.refl _ _)
          · have hd2 : L.getD 2 false = true := hdep 2 (by kernel_rfl)
            have e77 := slotAt (HI.out.fx 2 _ rfl hd2)
            refine wpOp_plain (o := _) rfl rfl ?_
            go_simp
            first | exact HI.out.step 3 rfl (Below.refl _ _) | (rw [HPOS.out]; exact HI.out.step 3 rfl (Below.refl _ _))
          · have hd3 : L.getD 3 false = true := hdep 3 (by kernel_rfl)
            have e78 := slotAt (HI.out.fx 3 _ rfl hd3)
            refine wpOp_plain (o := _) rfl rfl ?_
            go_simp
            exact HI.out.step 4 rfl (Below.refl _ _)
          · have hd4 : L.getD 4 false = true := hdep 4 (by kernel_rfl)
            refine wpOp_no (o := _) rfl (wanted_of (want := true) rfl (yield_of (o := _) (d := 79) rfl rfl (HI.out.fx 4 _ rfl hd4) (by rw [hsz]; decide))) ?_
            exact HI.out.step 5 rfl (Below.refl _ _)
          · have hd4 : L.getD 4 false = true := hdep 4 (by kernel_rfl)
            have hd5 : L.getD 5 false = true := hdep 5 (by kernel_rfl)
            refine wpOp_no (o := _) rfl (wanted_of (want := true) rfl (yield_of (o := _) (d := 79) rfl rfl (HI.out.fx 4 _ rfl hd4) (by rw [hsz]; decide))) ?_
            exact HI.out.step 6 rfl (Below.refl _ _)
          · have hd4 : L.getD 4 false = true := hdep 4 (by kernel_rfl)
            have hd6 : L.getD 6 false = true := hdep 6 (by kernel_rfl)
            have e79 := slotAt (HI.out.fx 4 _ rfl hd4)
            have e81 := slotAt (HI.out.fx 6 _ rfl hd6)
            refine wpOp_plain (o := _) rfl rfl ?_
            go_simp
            exact HI.out.step 7 rfl (Below.refl _ _)
          · have hd7 : L.getD 7 false = true := hdep 7 (by kernel_rfl)
            have e82 := slotAt (HI.out.fx 7 _ rfl hd7)
            refine wpOp_plain (o := _) rfl rfl ?_
            go_simp
            exact HI.out.step 8 rfl (Below.refl _ _)
          · have hd8 : L.getD 8 false = true := hdep 8 (by kernel_rfl)
            refine wpOp_no (o := _) rfl (wanted_of (want := true) rfl (yield_of (o := _) (d := 83) rfl rfl (HI.out.fx 8 _ rfl hd8) (by rw [hsz]; decide))) ?_
            exact HI.out.step 9 rfl (Below.refl _ _)
          · have hd8 : L.getD 8 false = true := hdep 8 (by kernel_rfl)
            have hd9 : L.getD 9 false = true := hdep 9 (by kernel_rfl)
            refine wpOp_no (o := _) rfl (wanted_of (want := true) rfl (yield_of (o := _) (d := 83) rfl rfl (HI.out.fx 8 _ rfl hd8) (by rw [hsz]; decide))) ?_
            exact HI.out.step 10 rfl (Below.refl _ _)
          · have hd8 : L.getD 8 false = true := hdep 8 (by kernel_rfl)
            refine wpOp_no (o := _) rfl (wanted_of (want := true) rfl (yield_of (o := _) (d := 83) rfl rfl (HI.out.fx 8 _ rfl hd8) (by rw [hsz]; decide))) ?_
            exact HI.out.step 11 rfl (Below.refl _ _)
          · have hd8 : L.getD 8 false = true := hdep 8 (by kernel_rfl)
            have hd10 : L.getD 10 false = true := hdep 10 (by kernel_rfl)
            have hd11 : L.getD 11 false = true := hdep 11 (by kernel_rfl)
            refine wpOp_no (o := _) rfl (wanted_of (want := true) rfl (yield_of (o := _) (d := 83) rfl rfl (HI.out.fx 8 _ rfl hd8) (by rw [hsz]; decide))) ?_
            exact HI.out.step 12 rfl (Below.refl _ _)
          · have hd8 : L.getD 8 false = true := hdep 8 (by kernel_rfl)
            have hd12 : L.getD 12 false = true := hdep 12 (by kernel_rfl)
            have e83 := slotAt (HI.out.fx 8 _ rfl hd8)
            have e87 := slotAt (HI.out.fx 12 _ rfl hd12)
            refine wpOp_plain (o := _) rfl rfl ?_
            go_simp
            exact HI.out.step 13 rfl (Below.refl _ _)
          · have hd0 : L.getD 0 false = true := hdep 0 (by kernel_rfl)
            have e75 := slotAt (HI.out.fx 0 _ rfl hd0)
            have hr0 := HI.out.br
            rw [HU.out] at hr0
            have hr : Blk w r0 46 #[.int .i64 0, .int .i64 0, .int .i64 0, .string ⟨#[]⟩] := hr0
            clear hr0
            have e2 := slotAt HI.out.t2
            have m0 : w.cell? ⟨r0, 0, none⟩ = some (.int .i64 0) := hr.cell rfl
            have f0 := hr.frozen 0
            have m1 : w.cell? ⟨r0, 1, none⟩ = some (.int .i64 0) := hr.cell rfl
            have f1 := hr.frozen 1
            have m2 : w.cell? ⟨r0, 2, none⟩ = some (.int .i64 0) := hr.cell rfl
            have f2 := hr.frozen 2
            have m3 : w.cell? ⟨r0, 3, none⟩ = some (.string ⟨#[]⟩) := hr.cell rfl
            have f3 := hr.frozen 3
            have HR := Lib.hid hr
            clear hr
            refine wpOp_plain (o := _) rfl rfl ?_
            go_simp
            exact HI.out.store HU.out ((((HI.out.bx.far (p := ⟨r0, 0, none⟩) (by show q ≠ r0; omega) (.int .i64 op)).far (p := ⟨r0, 1, none⟩) (by show q ≠ r0; omega) (.int .i64 ax)).far (p := ⟨r0, 2, none⟩) (by show q ≠ r0; omega) (.int .i64 ix)).far (p := ⟨r0, 3, none⟩) (by show q ≠ r0; omega) (.string tx)) (by have h := ((((HR.out.set_ 0 (.int .i64 op)).set_ 1 (.int .i64 ax)).set_ 2 (.int .i64 ix)).set_ 3 (.string tx)); simpa using h) ((((HI.out.bel.setCell (p := ⟨r0, 0, none⟩) hr0w (.int .i64 op)).setCell (p := ⟨r0, 1, none⟩) hr0w (.int .i64 ax)).setCell (p := ⟨r0, 2, none⟩) hr0w (.int .i64 ix)).setCell (p := ⟨r0, 3, none⟩) hr0w (.string tx))
          · have hd13 : L.getD 13 false = true := hdep 13 (by kernel_rfl)
            have e88 := slotAt (HI.out.fx 13 _ rfl hd13)
            refine wpOp_plain (o := _) rfl rfl ?_
            go_simp
            exact HI.out.last
        · intro L a w hI hall
          have h14 := hall 14 (by decide)
          have h15 := hall 15 (by decide)
          have e3 := slotAt (hI.fin h15)
          have e2 := slotAt hI.t2
          have hsz := hI.asz
          have hdf := hI.dfs
          have hbr := hI.br
          rw [h14] at hbr
          have hbr2 : Blk w r0 46 #[.int .i64 op, .int .i64 ax, .int .i64 ix, .string tx] := hbr
          have m0 : w.cell? ⟨r0, 0, none⟩ = some (.int .i64 op) := hbr2.cell rfl
          have m1 : w.cell? ⟨r0, 1, none⟩ = some (.int .i64 ax) := hbr2.cell rfl
          have m2 : w.cell? ⟨r0, 2, none⟩ = some (.int .i64 ix) := hbr2.cell rfl
          have m3 : w.cell? ⟨r0, 3, none⟩ = some (.string tx) := hbr2.cell rfl
          have HBL := Lib.hid hI.bel
          clear hI hall h14 h15 hbr hbr2
          go_wp2_with fail
          refine bodyPost_ret (v := .tuple #[.agg #[.int .i64 op, .int .i64 ax, .int .i64 ix, .string tx], .bool (false && false && false)]) (by simp [results, Tryd.results33, go_sem, e3, e2, hsz, m0, m1, m2, m3]) hdf ?_
          refine ⟨op, ax, ix, tx, _, rfl, K7.out.2.2.2.1, HBL.out, (fun h => by simp at h), fun _ => HNN.out⟩

end Go.Proofs.YtdkoafmgenbkbaaDoor
namespace Go.Proofs.YtdkoafmgenbkbaaDoor
set_option linter.unusedSimpArgs false
set_option linter.unusedVariables false
open Go.RowKit

theorem behind_at {l : List Nat} {k A : Nat} (hA : (aheadC 10 (l.drop k)).length = A) (h : k + A < l.length) : behindC 10 (l.drop k) = l.drop (k + A + 1) := by
  rw [behind_drop, hA, List.length_drop, List.drop_drop]
  congr 1
  omega
theorem contains_at {c : Nat} {l : List Nat} : l.contains c = decide ((aheadC c l).length < l.length) := by
  rcases h : l.contains c with _ | _
  · rw [(ahead_all h).1]; simp
  · have h2 := ahead_behind h
    have h3 := congrArg List.length h2
    simp only [List.length_append, List.length_cons] at h3
    simp
    omega
set_option maxRecDepth 100000 in
set_option maxHeartbeats 4000000 in
theorem rparse_any (hright : RightIs) (s : ByteArray) (hs : s.size ≤ maxLen) (w : World) : Calls Tryd.prog 16 #[.string s] w (ParseK w (bs s)) := by
  obtain ⟨L, hL⟩ : ∃ x, bs s = x := ⟨_, rfl⟩
  have hlen : s.size = L.length := by rw [← hL, bs_len]
  have hLb : Bytes L := by rw [← hL]; exact bs_bytes s
  obtain rfl : s = txt L := by rw [← hL, txt_bs]
  rw [hL]
  have HRT := Lib.hid hright
  obtain ⟨R, hR⟩ : ∃ x, parseC L = x := ⟨_, rfl⟩
  have HR := Lib.hid hR
  have HLB := Lib.hid hLb
  clear hL hR hright hLb
  unfold ParseK
  rw [HR.out]
  by_cases hbig : 1048576 < L.length
  · have hb1 : (1048576 : Int) < ((txt L).size : Int) := by omega
    have hv : R = ([], 0, 3) := by rw [← HR.out]; unfold parseC; rw [if_pos hbig]
    have HV := Lib.hid hv
    clear hv hlen hbig hs
    go_enter Tryd.func16, Tryd.ntmps16
    go_wp2_with fail
    have B0 := Blk.new w 24 #[.slice none 0 0]
    have q0 := B0.cell (i := 0) rfl
    refine bodyPost_ret (v := .tuple #[.agg #[.slice none 0 0], .int .i64 0, .int .i64 3]) (by simp [results, Tryd.results16, go_sem, q0]) rfl ?_
    rw [HV.out]
    exact ⟨_, rfl, Own1.nil_ _ _ _ _ _, (Below.refl _ _).alloc (Nat.le_refl _) _⟩
  · obtain ⟨N, hN⟩ : ∃ N, L.length = N := ⟨_, rfl⟩
    have hb1 : ¬ (1048576 : Int) < ((txt L).size : Int) := by omega
    have hb2 : N ≤ 1048576 := by omega
    have hsz : ((txt L).size : Int) = (N : Int) := by omega
    have hv : R = match linesN L.length L [] with | .inr k => ([], k, 110) | .inl c => if (rightC c).2 ≠ 0 then ([], (rightC c).1, (rightC c).2) else (c, 0, 0) := by rw [← HR.out]; unfold parseC; rw [if_neg hbig]; rfl
    have HV := Lib.hid hv
    obtain ⟨jI, hi, hz, hsz2, hby⟩ := info_parts info_Ins
    have I := Lib.hid (And.intro hi (And.intro hz (And.intro hsz2 hby)))
    have HN := Lib.hid hN
    clear hv hbig hs hi hz hsz2 hby hlen hN
    go_enter Tryd.func16, Tryd.ntmps16
    go_wp2_with fail
    go_loopw [3, 4, 6, 7, 8, 9] (fun _ _ x _ _ _ wr => ∃ (a : Option Addr) (n c k : Nat) (cl : List Ins), x = .int .i64 (k : Int) ∧ k ≤ N ∧ Hid (cl.length ≤ k ∧ linesN L.length L [] = linesN (L.drop k).length (L.drop k) cl ∧ n = cl.length) ∧ Hid (Own1 wr (w.heap.size + 2) 46 4 Ins.Is (.slice a n c) cl ∧ Blk wr (w.heap.size + 1) 24 #[.slice a n c] ∧ Blk wr w.heap.size 24 #[.slice none 0 0] ∧ Below w.heap.size w wr)) (fun _ _ x _ _ _ _ => N - (intOf x).toNat)
    case atStart =>
      exact ⟨none, 0, 0, 0, [], rfl, Nat.zero_le _, Lib.hid ⟨by simp, rfl, rfl⟩, Lib.hid ⟨Own1.nil_ _ _ _ _ _, Blk.new_ (by simp) _ _, (Blk.new w _ _).alloc _, ((Below.refl _ _).alloc (Nat.le_refl _) _).alloc (by simp) _⟩⟩
    case round =>
      obtain ⟨a, n, c, k, cl, rfl, hk, hI, hB⟩ := hrel
      have v0 : wr.cell? ⟨w.heap.size + 1, 0, none⟩ = some (.slice a n c) := hB.out.2.1.cell rfl
      have r0 : wr.cell? ⟨w.heap.size, 0, none⟩ = some (.slice none 0 0) := hB.out.2.2.1.cell rfl
      have f0 := hB.out.2.2.1.frozen 0
      have s0 : w.heap.size + 1 < wr.heap.size := hB.out.2.1.lt
      have s00 : w.heap.size < wr.heap.size := by omega
      by_cases hlt : k < N
      · obtain ⟨rem, hrem⟩ : ∃ x, L.drop k = x := ⟨_, rfl⟩
        obtain ⟨A, hA⟩ : ∃ x, (aheadC 10 rem).length = x := ⟨_, rfl⟩
        obtain ⟨E, hE⟩ : ∃ x, k + A = x := ⟨_, rfl⟩
        have hrl : rem.length = N - k := by rw [← hrem, List.length_drop, HN.out]
        have hAn : A ≤ N - k := by rw [← hA, ← hrl]; exact (ahead_len 10 rem).1
        have hne : rem ≠ [] := by intro e; rw [e] at hrl; simp at hrl; omega
        have HRB : Hid (Bytes rem) := Lib.hid (by rw [← hrem]; exact fun n hn => HLB.out n (List.mem_of_mem_drop hn))
        have HST := Lib.hid (lines_step cl hne)
        have ex1 : (txt L).extract k E = txt (aheadC 10 rem) := bs_inj (by rw [← hE, bs_extract, bs_txt HLB.out, bs_txt (ahead_bytes HRB.out).1, List.drop_take, hrem, Nat.add_sub_cancel_left, ← hA, ahead_take])
        have hct : rem.contains 10 = decide (E < N) := by rw [contains_at, hA, hrl]; congr 1; apply propext; omega
        have RDK := Lib.hid (fun W => read_any (aheadC 10 rem) (ahead_bytes HRB.out).1 (by rw [hA]; omega) W)
        have hrem2 : ∀ j d, L[k + j]? = some d → rem[j]? = some d := fun j d h => by rw [← hrem, List.getElem?_drop]; exact h
        have HRM := Lib.hid hrem
        have HRM2 := Lib.hid hrem2
        have HA := Lib.hid hA
        have HCT := Lib.hid hct
        have EX1 := Lib.hid ex1
        have b2 : (k : Int) ≤ (E : Int) := by omega
        have b3 : (E : Int) ≤ ((txt L).size : Int) := by rw [hsz]; omega
        have b4 : k ≤ E := by omega
        have b5 : E ≤ N := by omega
        have HE := Lib.hid hE
        have b1 : (0 : Int) ≤ (k : Int) := Int.natCast_nonneg _
        have hdk : (k : Int) < (N : Int) := by omega
        clear hrem hA hrl hne hct hrem2 ex1 hE hAn
        go_upto_block 2 with fail
        go_cut [7] from 21 to 32 (fun v wx => v = .int .i64 (E : Int) ∧ wx = wr)
        case first =>
          go_wp2_with fail
          go_loopw [7] (fun j wx => ∃ t : Nat, k ≤ t ∧ t ≤ E ∧ j = .int .i64 (t : Int) ∧ wx = wr) (fun j _ => N - (intOf j).toNat)
          case atStart => exact ⟨k, Nat.le_refl _, b4, rfl, rfl⟩
          case round =>
            obtain ⟨t, ht1, ht2, rfl, rfl⟩ := hrel
            by_cases hil : t < N
            · obtain ⟨d, hd, d256⟩ := get_bs (s := txt L) (k := t) (by rw [txt_size, HN.out]; exact hil)
              have i1 := fun W => index_txt W 9 Tryd.underlying9 hd .i64 _ rfl
              rw [bs_txt HLB.out] at hd
              have hd2 := HRM2.out (t - k) d (by rw [show k + (t - k) = t by omega]; exact hd)
              by_cases hd10 : d = 10
              · subst hd10
                have hkA := ahead_stop (c := 10) (by rw [HA.out]; have := HE.out; omega) hd2
                rw [HA.out] at hkA
                have hte : t = E := by have := HE.out; omega
                subst hte
                clear hd hd2 hkA
                go_wp2_with fail
                go_meet
                first | exact ⟨rfl, rfl⟩ | exact ⟨rfl, trivial⟩
              · have e1 : ((d : Int) != 10) = true := by simp; omega
                have hm := ahead_more (c := 10) (by rw [HA.out]; have := HE.out; omega) hd2 hd10
                rw [HA.out] at hm
                have hm2 : t + 1 ≤ E := by have := HE.out; omega
                clear hd hd2 hm
                go_wp2_with fail
                go_roundw
                case rel => exact ⟨t + 1, by omega, hm2, by go_num, by trivial⟩
                case measure => simp [intOf]; omega
            · have hte : t = E := by omega
              have hdec : decide (t < N) = false := by simp; omega
              subst hte
              go_wp2_with fail
              go_meet
              first | exact ⟨rfl, rfl⟩ | exact ⟨rfl, trivial⟩
        case rest =>
          obtain ⟨rfl, rfl⟩ := hcut
          have RD0 : Hid (∀ W, Calls Tryd.prog 33 #[.string ((txt L).extract k E)] W (ReadK W (aheadC 10 rem))) := Lib.hid (fun W => by rw [EX1.out]; exact RDK.out W)
          by_cases hend : E < N
          · have dend1 : ((E : Int) == (N : Int)) = false := by simp; omega
            have HEND := Lib.hid hend
            clear hend
            go_wp2_with (first
              | (go_at_call 33; go_must (refine (RD0.out _).mono ?_); go_must (rintro e w3 ⟨op, arg, int, t, b, rfl, hok, hb, hyes, hno⟩); go_must (have K3 := Lib.hid (And.intro (hB.out.1.keepB hb) (And.intro (hB.out.2.1.below hb hB.out.2.1.lt) (And.intro (hB.out.2.2.1.below hb hB.out.2.2.1.lt) (hB.out.2.2.2.trans (hb.mono hB.out.2.2.2.size)))))); go_must (have HOK := Lib.hid hok); go_must (have HYES := Lib.hid hyes); go_must (have HNO := Lib.hid hno); go_must (have v3 : w3.cell? ⟨w.heap.size + 1, 0, none⟩ = some (.slice a n c) := K3.out.2.1.cell rfl); go_must (have r3 : w3.cell? ⟨w.heap.size, 0, none⟩ = some (.slice none 0 0) := K3.out.2.2.1.cell rfl); go_must (have f3 := K3.out.2.2.1.frozen 0); go_must (have g3 := K3.out.2.1.frozen 0); go_must (have s3 : w.heap.size + 1 < w3.heap.size := K3.out.2.1.lt); go_must (have s30 : w.heap.size < w3.heap.size := by omega); go_must (clear hb hok hyes hno); cases b)
              | (at_builtin
                 go_must (refine wpList_append_list rfl (.tmp 54) (.tmp 56) _ (by rfl) (w.heap.size + 2) (w3.heap.size + 1 + 1) 46 jI _ 4 40 Tryd.underlying22 I.out.1 I.out.2.1 I.out.2.2.1 I.out.2.2.2 rfl (by omega) (R := Ins.Is) (l := cl) (m := [⟨op, arg, int, t⟩]) (.slice a n c) (by rfl) (by exact ((K3.out.1.alloc (.cells #[.int .i64 op, .int .i64 arg, .int .i64 int, .string t] 46)).alloc (.cells #[.int .i64 op, .int .i64 arg, .int .i64 int, .string t] 46))) (some ⟨w3.heap.size + 1, 0, none⟩) 1 1 (by rfl) (by have := SlR.new1 (w := w3.alloc (.cells #[.int .i64 op, .int .i64 arg, .int .i64 int, .string t] 46)) (e := 46) (g := w3.heap.size + 1) (by simp) (x := [.int .i64 op, .int .i64 arg, .int .i64 int, .string t]) rfl (R := Ins.Is) (y := ⟨op, arg, int, t⟩) ⟨rfl, HOK.out⟩; simpa using this) (n + 1) (by rw [hI.out.2.2]) Ins.Is.one (by have := hI.out.1; unfold maxLen; omega) (by have := hI.out.1; omega) (by simp; omega) ?_)
                 intro a5 c5 w5 hown hgr
                 have hne : ∀ k, k < w.heap.size + 2 → some k ≠ (Value.slice a n c).ownBlock := fun k hk e => by have := (K3.out.1.block k e.symm).1; omega
                 have K5 : Hid (Own1 w5 (w.heap.size + 2) 46 4 Ins.Is (.slice a5 (n + 1) c5) (cl ++ [⟨op, arg, int, t⟩]) ∧ Blk w5 (w.heap.size + 1) 24 #[.slice a n c] ∧ Blk w5 w.heap.size 24 #[.slice none 0 0] ∧ Below w.heap.size w w5) := Lib.hid ⟨hown, ((K3.out.2.1.alloc _).alloc _).grown hgr (hne _ (by omega)), ((K3.out.2.2.1.alloc _).alloc _).grown hgr (hne _ (by omega)), ((K3.out.2.2.2.alloc K3.out.2.2.2.size _).alloc (by have := K3.out.2.2.2.size; simp; omega) _).grown hgr (by have := K3.out.2.2.2.size; simp; omega) (fun g hg => by have := (K3.out.1.block g hg).1; omega)⟩
                 have v5 : w5.cell? ⟨w.heap.size + 1, 0, none⟩ = some (.slice a n c) := K5.out.2.1.cell rfl
                 have g5 := K5.out.2.1.frozen 0
                 clear hown hgr hne)
              | fail)
            · have hv : R = ([], cl.length, 110) := by rw [HV.out, hI.out.2.1, HRM.out, HST.out, HNO.out (by trivial)]
              have hnl : n = cl.length := hI.out.2.2
              have HVR := Lib.hid hv
              have HNL := Lib.hid hnl
              clear hv hnl
              go_region
              all_goals
                go_wp2_with fail
                have hv := HVR.out
                rw [← HNL.out] at hv
                generalize hz : World.drew _ = wz
                have BZ : Blk wz w.heap.size 24 #[.slice none 0 0] := by rw [← hz]; have h := K3.out.2.2.1.set_ 0 (.slice none 0 0); exact Blk.drw (Blk.alloc (by simpa using h) _)
                have LZ : Below w.heap.size w wz := by rw [← hz]; exact ((K3.out.2.2.2.setCell (p := ⟨w.heap.size, 0, none⟩) (Nat.le_refl _) _).alloc (by have := K3.out.2.2.2.size; simpa using this) _).drew
                clear hz
                have q0 := BZ.cell (i := 0) rfl
                refine bodyPost_ret (v := .tuple #[.agg #[.slice none 0 0], .int .i64 (n : Int), .int .i64 110]) (by simp [results, Tryd.results16, go_sem, q0]) rfl ?_
                rw [hv]
                exact ⟨_, rfl, Own1.nil_ _ _ _ _ _, LZ⟩

            · go_roundw
              case rel =>
                refine ⟨a5, n + 1, c5, E + 1, cl ++ [⟨op, arg, int, t⟩], by go_num, by have := HEND.out; omega, Lib.hid ⟨?_, ?_, ?_⟩, Lib.hid ⟨?_, ?_, ?_, ?_⟩⟩
                · have := hI.out.1; simp; omega
                · rw [hI.out.2.1, HRM.out, HST.out, HYES.out (by trivial), HCT.out, decide_eq_true HEND.out, ← HRM.out, behind_at (A := A) (k := k) (by rw [HRM.out]; exact HA.out) (by rw [HN.out, HE.out]; exact HEND.out), HE.out]; rfl
                · rw [List.length_append, hI.out.2.2]; rfl
                · exact K5.out.1.setFar (p := ⟨w.heap.size + 1, 0, none⟩) (by show w.heap.size + 1 < w.heap.size + 2; omega) _
                · have h := K5.out.2.1.set_ 0 (.slice a5 (n + 1) c5); simpa using h
                · exact K5.out.2.2.1.far (p := ⟨w.heap.size + 1, 0, none⟩) (by show w.heap.size ≠ w.heap.size + 1; omega) _
                · exact K5.out.2.2.2.setCell (p := ⟨w.heap.size + 1, 0, none⟩) (by show w.heap.size ≤ w.heap.size + 1; omega) _
              case measure => simp [intOf]; omega
          · have hAe : E = N := by omega
            have dend1 : ((E : Int) == (N : Int)) = true := by simp; omega
            have HAE := Lib.hid hAe
            clear hend hAe
            go_wp2_with (first
              | (go_at_call 33; go_must (refine (RD0.out _).mono ?_); go_must (rintro e w3 ⟨op, arg, int, t, b, rfl, hok, hb, hyes, hno⟩); go_must (have K3 := Lib.hid (And.intro (hB.out.1.keepB hb) (And.intro (hB.out.2.1.below hb hB.out.2.1.lt) (And.intro (hB.out.2.2.1.below hb hB.out.2.2.1.lt) (hB.out.2.2.2.trans (hb.mono hB.out.2.2.2.size)))))); go_must (have HOK := Lib.hid hok); go_must (have HYES := Lib.hid hyes); go_must (have HNO := Lib.hid hno); go_must (have v3 : w3.cell? ⟨w.heap.size + 1, 0, none⟩ = some (.slice a n c) := K3.out.2.1.cell rfl); go_must (have r3 : w3.cell? ⟨w.heap.size, 0, none⟩ = some (.slice none 0 0) := K3.out.2.2.1.cell rfl); go_must (have f3 := K3.out.2.2.1.frozen 0); go_must (have g3 := K3.out.2.1.frozen 0); go_must (have s3 : w.heap.size + 1 < w3.heap.size := K3.out.2.1.lt); go_must (have s30 : w.heap.size < w3.heap.size := by omega); go_must (clear hb hok hyes hno); cases b)
              | fail)
            all_goals
              have hv : R = ([], cl.length, 110) := by
                rw [HV.out, hI.out.2.1, HRM.out, HST.out]
                first
                  | (rw [HNO.out (by trivial)])
                  | (rw [HYES.out (by trivial), HCT.out, HAE.out]; simp)
              have hnl : n = cl.length := hI.out.2.2
              have HVR := Lib.hid hv
              have HNL := Lib.hid hnl
              clear hv hnl
              go_region
              all_goals
                go_wp2_with fail
                have hv := HVR.out
                rw [← HNL.out] at hv
                generalize hz : World.drew _ = wz
                have BZ : Blk wz w.heap.size 24 #[.slice none 0 0] := by rw [← hz]; have h := K3.out.2.2.1.set_ 0 (.slice none 0 0); exact Blk.drw (Blk.alloc (by simpa using h) _)
                have LZ : Below w.heap.size w wz := by rw [← hz]; exact ((K3.out.2.2.2.setCell (p := ⟨w.heap.size, 0, none⟩) (Nat.le_refl _) _).alloc (by have := K3.out.2.2.2.size; simpa using this) _).drew
                clear hz
                have q0 := BZ.cell (i := 0) rfl
                refine bodyPost_ret (v := .tuple #[.agg #[.slice none 0 0], .int .i64 (n : Int), .int .i64 110]) (by simp [results, Tryd.results16, go_sem, q0]) rfl ?_
                rw [hv]
                exact ⟨_, rfl, Own1.nil_ _ _ _ _ _, LZ⟩
      · obtain rfl : k = N := by omega
        have hdk : ¬ (k : Int) < (k : Int) := by omega
        have RC := Lib.hid (HRT.out cl (.slice a n c) wr wr (hB.out.1.read (by decide)) (Below.refl _ _))
        obtain ⟨e1, he1⟩ : ∃ x, (rightC cl).1 = x := ⟨_, rfl⟩
        obtain ⟨e2, he2⟩ : ∃ x, (rightC cl).2 = x := ⟨_, rfl⟩
        rw [he1, he2] at RC
        have HV2 : Hid (R = if e2 ≠ 0 then ([], e1, e2) else (cl, 0, 0)) := Lib.hid (by rw [HV.out, hI.out.2.1, List.drop_of_length_le (by rw [HN.out]; exact Nat.le_refl _), ← he1, ← he2]; rfl)
        clear he1 he2 HV
        by_cases hz : e2 = 0
        · have hz1 : ((e2 : Int) != 0) = false := by simp [hz]
          have hz2 : ((e2 : Int) == 0) = true := by simp [hz]
          have HZ := Lib.hid hz
          clear hz
          go_wp2_with (first
            | (go_at_call 7; refine (RC.out).mono ?_; rintro e w4 ⟨rfl, hb⟩; have K4 := Lib.hid (And.intro (hB.out.1.keepB hb) (And.intro (hB.out.2.1.below hb hB.out.2.1.lt) (And.intro (hB.out.2.2.1.below hb hB.out.2.2.1.lt) (hB.out.2.2.2.trans (hb.mono hB.out.2.2.2.size))))); have v4 : w4.cell? ⟨w.heap.size + 1, 0, none⟩ = some (.slice a n c) := K4.out.2.1.cell rfl; have r4 : w4.cell? ⟨w.heap.size, 0, none⟩ = some (.slice none 0 0) := K4.out.2.2.1.cell rfl; have f4 := K4.out.2.2.1.frozen 0; clear hb)
            | fail)
          generalize hz : World.setCell _ _ _ = wz
          have BZ : Blk wz w.heap.size 24 #[.slice a n c] := by rw [← hz]; have h := K4.out.2.2.1.set_ 0 (.slice a n c); simpa using h
          have LZ : Below w.heap.size w wz := by rw [← hz]; exact K4.out.2.2.2.setCell (p := ⟨w.heap.size, 0, none⟩) (Nat.le_refl _) _
          have OZ : Own1 wz (w.heap.size + 2) 46 4 Ins.Is (.slice a n c) cl := by rw [← hz]; exact K4.out.1.setFar (p := ⟨w.heap.size, 0, none⟩) (by show w.heap.size < w.heap.size + 2; omega) _
          clear hz
          have q0 := BZ.cell (i := 0) rfl
          refine bodyPost_ret (v := .tuple #[.agg #[.slice a n c], .int .i64 0, .int .i64 0]) (by simp [results, Tryd.results16, go_sem, q0]) rfl ?_
          have hv := HV2.out
          rw [if_neg (by have := HZ.out; omega)] at hv
          rw [hv]
          exact ⟨_, rfl, OZ.mono (by omega), LZ⟩
        · have hz1 : ((e2 : Int) != 0) = true := by simpa using hz
          have hz2 : ((e2 : Int) == 0) = false := by simpa using hz
          have HZ := Lib.hid hz
          clear hz
          go_wp2_with (first
            | (go_at_call 7; refine (RC.out).mono ?_; rintro e w4 ⟨rfl, hb⟩; have K4 := Lib.hid (And.intro (hB.out.1.keepB hb) (And.intro (hB.out.2.1.below hb hB.out.2.1.lt) (And.intro (hB.out.2.2.1.below hb hB.out.2.2.1.lt) (hB.out.2.2.2.trans (hb.mono hB.out.2.2.2.size))))); have v4 : w4.cell? ⟨w.heap.size + 1, 0, none⟩ = some (.slice a n c) := K4.out.2.1.cell rfl; have r4 : w4.cell? ⟨w.heap.size, 0, none⟩ = some (.slice none 0 0) := K4.out.2.2.1.cell rfl; have f4 := K4.out.2.2.1.frozen 0; clear hb)
            | fail)
          have hv := HV2.out
          rw [if_pos HZ.out] at hv
          generalize hz : World.setCell _ _ _ = wz
          have BZ : Blk wz w.heap.size 24 #[.slice none 0 0] := by rw [← hz]; have h := K4.out.2.2.1.set_ 0 (.slice none 0 0); simpa using h
          have LZ : Below w.heap.size w wz := by rw [← hz]; exact K4.out.2.2.2.setCell (p := ⟨w.heap.size, 0, none⟩) (Nat.le_refl _) _
          clear hz
          have q0 := BZ.cell (i := 0) rfl
          refine bodyPost_ret (v := .tuple #[.agg #[.slice none 0 0], .int .i64 (e1 : Int), .int .i64 (e2 : Int)]) (by simp [results, Tryd.results16, go_sem, q0]) rfl ?_
          rw [hv]
          exact ⟨_, rfl, Own1.nil_ _ _ _ _ _, LZ⟩
end Go.Proofs.YtdkoafmgenbkbaaDoor
namespace Go.Proofs.YtdkoafmgenbkbaaDoor
set_option linter.unusedSimpArgs false
set_option linter.unusedVariables false
open Go.RowKit

theorem SA {w w1 w2 : World} {v : Value} {c1 : List Ins} {o o' : Obj} (h : Own1 w1 w.heap.size 46 4 Ins.Is v c1) (hb : Below (w1.alloc o).heap.size (w1.alloc o) w2) : SlR (w2.alloc o') (w2.alloc o').heap.size 4 Ins.Is v c1 := by
  have h1 : SlR w1 w1.heap.size 4 Ins.Is v c1 := h.read (by decide)
  have h2 : Below w1.heap.size w1 (w2.alloc o') := (((Below.refl _ _).alloc (Nat.le_refl _) o).trans (hb.mono (by simp))).alloc (by have := hb.size; simp at this; omega) o'
  exact (h1.below h2).more h2.size
theorem SB {w w2 : World} {v : Value} {c1 : List Ins} {o' : Obj} (h : Own1 w2 w.heap.size 46 4 Ins.Is v c1) : SlR (w2.alloc o') (w2.alloc o').heap.size 4 Ins.Is v c1 := (h.alloc o').read (by decide)
set_option maxRecDepth 100000 in
set_option maxHeartbeats 4000000 in
theorem lawRd (s : ByteArray) (hs : s.size ≤ maxLen) (w : World) (hw : Lays w) :
    Calls Tryd.prog 5 #[.string s] w fun e w' => e = .returned (.bool true) ∧ Below w.heap.size w w' := by
  have PP := Lib.hid (fun W (hW : Below w.heap.size w W) => parse_any s hs W (hw.below hW))
  have RP := Lib.hid (fun W => rparse_any right_is s hs W)
  by_cases hmid : (60000 : Int) < (s.size : Int) ∧ (s.size : Int) ≤ 1048576
  · obtain ⟨h1, h2⟩ := hmid
    go_enter Tryd.func5, Tryd.ntmps5
    go_wp2_with fail
    go_ret
    exact ⟨rfl, Below.refl _ _⟩
  · have hcond : ∀ (K : Prop), ((60000 : Int) < (s.size : Int) → ¬ (s.size : Int) ≤ 1048576 → K) → (¬ (60000 : Int) < (s.size : Int) → K) → K := fun K a b => by
      by_cases h : (60000 : Int) < (s.size : Int)
      · exact a h (fun h2 => hmid ⟨h, h2⟩)
      · exact b h
    obtain ⟨c1, hc1⟩ : ∃ x, (parseC (bs s)).1 = x := ⟨_, rfl⟩
    obtain ⟨c2, hc2⟩ : ∃ x, (parseC (bs s)).2.1 = x := ⟨_, rfl⟩
    obtain ⟨c3, hc3⟩ : ∃ x, (parseC (bs s)).2.2 = x := ⟨_, rfl⟩
    unfold ParseK at PP RP
    rw [hc1, hc2, hc3] at PP RP
    clear hc1 hc2 hc3
    refine hcond _ (fun h1 h2 => ?_) (fun h1 => ?_)
    all_goals
      clear hmid hcond
      go_enter Tryd.func5, Tryd.ntmps5
      go_wp2_with (first
        | (go_at_call 15; go_must (refine (PP.out _ (Below.refl _ _)).mono ?_); rintro e w1 ⟨v, rfl, ho, hb⟩; obtain ⟨a, c, rfl⟩ := ho.form; go_must (have H1 := Lib.hid (And.intro ho hb)); go_must (have B1 := Lib.hid (Blk.new w1 24 #[.slice a c1.length c])); clear ho hb)
        | (go_at_call 16; go_must (refine (RP.out _).mono ?_); rintro e w2 ⟨v, rfl, ho, hb⟩; obtain ⟨a', c', rfl⟩ := ho.form; go_must (have Q1 := B1.out.below hb B1.out.lt); go_must (have q1 : w2.cell? ⟨w1.heap.size, 0, none⟩ = some (.slice a c1.length c) := Q1.cell rfl); go_must (have lt1 : w1.heap.size < w2.heap.size := Q1.lt); go_must (have H2 := Lib.hid (And.intro ho hb)); clear ho hb Q1)
        | (go_at_call 10; go_must (refine (rsame_any (w2.alloc (.cells #[.slice a' c1.length c'] 24)) (w2.alloc (.cells #[.slice a' c1.length c'] 24)) (l := c1) (m := c1) (SA H1.out.1 H2.out.2) (SB H2.out.1) (Below.refl _ _)).mono ?_); rintro e w3 ⟨rfl, hb⟩; go_must (have H3 := Lib.hid hb); clear hb)
        | fail)
      go_ret
      have b1 := H1.out.2
      have b2 : Below w.heap.size w w2 := (b1.alloc b1.size _).trans (H2.out.2.mono (by have := b1.size; simp; omega))
      exact ⟨rfl, (b2.alloc b2.size _).trans (H3.out.mono (by have := b2.size; simp; omega))⟩
end Go.Proofs.YtdkoafmgenbkbaaDoor
