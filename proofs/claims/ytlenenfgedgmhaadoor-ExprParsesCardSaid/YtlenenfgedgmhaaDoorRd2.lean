/- The reference's reader: a node is made. -/
import Derived.Test.YtlenenfgedgmhaaDoorRd1
import Derived.Deep.RegionLaw
namespace Go.Proofs.YtlenenfgedgmhaaDoor
set_option linter.unusedSimpArgs false
set_option linter.unusedVariables false
open Go.RowKit

/-- the main row behind the making of a row of numbers -/
theorem EL.main2 {X w2 : World} {B : Nat} {mv : Value} {es : List (EN × Value)} (h : EL X B mv es) (o o' : Obj) (hg : (X.alloc o).grownBy w2 (some X.heap.size)) : Own1 (w2.alloc o') B 46 4 IsEN mv es := by
  have hs : X.heap.size < (X.alloc o).heap.size := by rw [World.size_alloc]; omega
  refine h.main.stay (fun b _ hb => ?_)
  have h2 : b < w2.heap.size := Nat.lt_of_lt_of_le (Nat.lt_trans hb hs) hg.size
  rw [Below.heap_alloc w2 o' b h2, hg.block b (Nat.lt_trans hb hs) (fun e => by injection e with e; omega), Below.heap_alloc X o b hb]
/-- a node more, its parts' row made just ahead -/
theorem EL.add {X w2 w4 : World} {B : Nat} {mv mv' kv : Value} {es : List (EN × Value)} {e : EN} (h : EL X B mv es) (hB : B ≤ X.heap.size) (o o' : Obj) (hk : Own1 w2 X.heap.size 3 1 IsNat kv e.kids)
    (hg : (X.alloc o).grownBy w2 (some X.heap.size)) (hm : Own1 w4 B 46 4 IsEN mv' (es ++ [(e, kv)])) (hg' : (w2.alloc o').grownBy w4 mv.ownBlock) : EL w4 B mv' (es ++ [(e, kv)]) := by
  have hs : X.heap.size < (X.alloc o).heap.size := by rw [World.size_alloc]; omega
  have st : ∀ b, b < X.heap.size → (w2.alloc o').heap[b]? = X.heap[b]? := fun b hb => by
    have h2 : b < w2.heap.size := Nat.lt_of_lt_of_le (Nat.lt_trans hb hs) hg.size
    rw [Below.heap_alloc w2 o' b h2, hg.block b (Nat.lt_trans hb hs) (fun e => by injection e with e; omega), Below.heap_alloc X o b hb]
  have m2 : Own1 (w2.alloc o') B 46 4 IsEN mv es := h.main.stay (fun b hb hl => st b hl)
  have k2 : ∀ (i : Nat) (p : EN × Value), es[i]? = some p → Own1 (w2.alloc o') B 3 1 IsNat p.2 p.1.kids := fun i p hp => (h.kids i p hp).stay (fun b hb hl => st b hl)
  have key : ∀ (i : Nat) (p : EN × Value), (es ++ [(e, kv)])[i]? = some p → es[i]? = some p ∨ (i = es.length ∧ p = (e, kv)) := by
    intro i p hp
    rcases Nat.lt_or_ge i es.length with hl | hl
    · rw [List.getElem?_append_left hl] at hp; exact .inl hp
    · rw [List.getElem?_append_right hl] at hp
      have h0 := (List.getElem?_eq_some_iff.1 hp).1
      simp at h0
      have : i = es.length := by omega
      subst this
      simp at hp
      exact .inr ⟨rfl, hp.symm⟩
  refine ⟨hm, fun i p hp => ?_, fun i j p p' b hij hi hj hb => ?_⟩
  · rcases key i p hp with h1 | ⟨_, rfl⟩
    · exact (k2 i p h1).kept1 m2 (by decide) hg'
    · exact ((hk.mono hB).alloc o').kept1 m2 (by decide) hg'
  · rcases key i p hi with h1 | ⟨e1, rfl⟩
    · rcases key j p' hj with h2 | ⟨e2, rfl⟩
      · exact h.apart i j p p' b hij h1 h2 hb
      · intro e
        have := (h.kids i p h1).block b hb
        have := hk.block b e
        omega
    · rcases key j p' hj with h2 | ⟨e2, rfl⟩
      · intro e
        have := (h.kids j p' h2).block b e
        have := hk.block b hb
        omega
      · omega
section
variable {q : Nat} {a : Option Addr} {c sz : Nat} {l : List Tok} {i : Nat} {bad : Int} {es : List (EN × Value)} {X : World}
theorem RSt.made (h : RSt q a c sz l i bad es X) {w4 : World} {es' : List (EN × Value)} {v' : Value} (hb : Below (q + 1) X w4) (hE : EL w4 (q + 1) v' es') : Below q X (w4.setCell ⟨q, 4, none⟩ v') ∧ RSt q a c sz l i bad es' (w4.setCell ⟨q, 4, none⟩ v') := by
  obtain ⟨mv, h1, _⟩ := h.box
  have hb2 : Below q X (w4.setCell ⟨q, 4, none⟩ v') := (hb.mono (Nat.le_succ q)).setCell (p := ⟨q, 4, none⟩) (Nat.le_refl q) _
  exact ⟨hb2, h.toks.below hb2, ⟨v', by have := (h1.below hb (Nat.lt_succ_self q)).set_ 4 v'; simpa using this, hE.setFar (Nat.lt_succ_self q) _⟩, h.le, h.few, h.szf, h.good, h.place⟩
set_option maxRecDepth 100000 in
set_option maxHeartbeats 8000000 in
theorem r_add (k : Nat) (s : List Nat) (v : Int) (ks : List Nat) (ka : Option Addr) (kn kc : Nat) (hks : SlR X X.heap.size 1 IsNat (.slice ka kn kc) ks) (hk3 : ks.length ≤ 3) (hes : es.length ≤ 5000) (h : RSt q a c sz l i bad es X) :
    Calls Tryd.prog 52 #[.pointer (some ⟨q, 0, none⟩), .int .i64 (k : Int), .string (txt s), .int .i64 v, .slice ka kn kc] X fun e w' => e = .returned (.int .i64 (es.length : Int)) ∧ Below q X w' ∧ ∃ kv, RSt q a c sz l i bad (es ++ [(⟨k, s, v, ks⟩, kv)]) w' := by
  obtain ⟨mv, hbox, hel⟩ := h.box
  obtain ⟨ma, mc, rfl⟩ := hel.main.form
  obtain ⟨m, hm⟩ : ∃ m, es.length = m := ⟨_, rfl⟩
  have hkn := hks.len
  rw [hm] at hbox hel hes
  have c4 : X.cell? ⟨q, 4, none⟩ = some (.slice ma m mc) := hbox.cell rfl
  have z4 := hbox.frozen 4
  have lq := hbox.lt
  have H := Lib.hid h
  have HB := Lib.hid hbox
  have HE := Lib.hid hel
  have HK := Lib.hid hks
  have HKN := Lib.hid hkn
  have HM := Lib.hid hm
  have HK3 := Lib.hid hk3
  obtain ⟨jE, hi, hz, hs2, hby⟩ := info_parts info_enode
  have IE := Lib.hid (And.intro hi (And.intro hz (And.intro hs2 hby)))
  clear hi hz hs2 hby
  obtain ⟨jI, hi, hz, hs2, hby⟩ := info_parts info_int
  have II := Lib.hid (And.intro hi (And.intro hz (And.intro hs2 hby)))
  have kn3 : kn ≤ 3 := by omega
  rw [hm]
  clear hi hz hs2 hby h hbox hel hks hkn hm hk3
  go_enter Tryd.func52, Tryd.ntmps52
  go_wp2_with fail
  have tokA : True := trivial
  go_region_law (first
    | (have _t := tokA; refine step_append_list rfl (.tmp 19) (.tmp 20) _ (by rfl) X.heap.size X.heap.size 3 jI _ 1 8 Tryd.underlying44 II.out.1 II.out.2.1 II.out.2.2.1 II.out.2.2.2 rfl (by omega) (R := IsNat) (l := []) (m := ks) (.slice (some ⟨X.heap.size, 0, none⟩) 0 0) (by rfl) (by exact (Own1.empty (w := X) rfl (Nat.le_refl _))) ka kn kc (by rfl) (by exact HK.out.below ((Below.refl X.heap.size X).alloc (Nat.le_refl _) _).drew) kn (by simp) IsNat.one (by simp; unfold maxLen; omega) (by simp; omega) (by show X.heap.size ≤ (X.alloc (.cells #[] 3)).heap.size; rw [World.size_alloc]; omega) ?_; intro a2 c2 w2 hown hgr0; have hgr : (X.alloc (.cells #[] 3)).grownBy w2 (some X.heap.size) := ⟨hgr0.os, hgr0.tape, hgr0.output, hgr0.size, hgr0.block⟩; have B2 : Below (q + 1) X w2 := ((Below.refl (q + 1) X).alloc lq (.cells #[] 3)).grown hgr (by rw [World.size_alloc]; omega) (fun b hb => by injection hb with hb; omega); have c42 : w2.cell? ⟨q, 4, none⟩ = some (.slice ma m mc) := (HB.out.below B2 (Nat.lt_succ_self q)).cell rfl; have lq2 := cell_lt c42; have HB2 := Lib.hid B2; have O2 := Lib.hid (And.intro hown hgr); clear hown hgr hgr0 B2 tokA _t)
    | (refine step_append_list rfl (.tmp 15) (.tmp 23) _ (by rfl) (q + 1) (w2.heap.size + 1) 46 jE _ 4 56 Tryd.underlying22 IE.out.1 IE.out.2.1 IE.out.2.2.1 IE.out.2.2.2 rfl (by omega) (R := IsEN) (l := es) (m := [(⟨k, s, v, ks⟩, .slice a2 kn c2)]) (.slice ma m mc) (by rfl) (HE.out.main2 (.cells #[] 3) (.cells #[.int .i64 (k : Int), .string (txt s), .int .i64 v, .slice a2 kn c2] 46) O2.out.2) (some ⟨w2.heap.size, 0, none⟩) 1 1 (by rfl) (by exact SlR.new1 (x := [.int .i64 (k : Int), .string (txt s), .int .i64 v, .slice a2 kn c2]) rfl rfl ⟨rfl, _, _, _, rfl⟩) (m + 1) (by rw [HM.out]) IsEN.one (by rw [HM.out]; unfold maxLen; omega) (by rw [HM.out]; omega) (by have : q < w2.heap.size := lq2; rw [World.size_alloc]; omega) ?_; intro a4 c44 w4 hown4 hgr4; have E4 := HE.out.add lq (.cells #[] 3) (.cells #[.int .i64 (k : Int), .string (txt s), .int .i64 v, .slice a2 kn c2] 46) (e := ⟨k, s, v, ks⟩) O2.out.1 O2.out.2 hown4 hgr4; have B4 : Below (q + 1) X w4 := (HB2.out.alloc (by have : q < w2.heap.size := lq2; omega) (.cells #[.int .i64 (k : Int), .string (txt s), .int .i64 v, .slice a2 kn c2] 46)).grown hgr4 (by have : q < w2.heap.size := lq2; rw [World.size_alloc]; omega) (fun b hb => (HE.out.main.block b hb).1); have bx := HB.out.below B4 (Nat.lt_succ_self q); have d4 : w4.cell? ⟨q, 4, none⟩ = some (.slice ma m mc) := bx.cell rfl; have d5 : w4.frozen? ⟨q, 4, none⟩ = false := bx.frozen 4; have S4 := Lib.hid (H.out.made B4 E4); clear hown4 hgr4 E4 B4 bx))
  all_goals
    go_wp2_with fail
    go_ret
    exact ⟨rfl, S4.out.1, _, S4.out.2⟩
end
end Go.Proofs.YtlenenfgedgmhaaDoor
