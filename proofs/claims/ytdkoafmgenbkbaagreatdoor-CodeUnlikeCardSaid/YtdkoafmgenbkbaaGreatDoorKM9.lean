/- - - - - - - - - - - -/
import Derived.Test.YtdkoafmgenbkbaaGreatDoorKLCpR
import Derived.Test.YtdkoafmgenbkbaaGreatDoorKM14
import Derived.Test.YtdkoafmgenbkbaaGreatDoorKM12
import Derived.Test.YtdkoafmgenbkbaaGreatDoorKM13
import Derived.Test.YtdkoafmgenbkbaaGreatDoorKM8
set_option maxRecDepth 100000
set_option maxHeartbeats 32000000
set_option linter.unusedSimpArgs false
set_option linter.unusedVariables false
namespace Go.Proofs.YtdkoafmgenbkbaaGreatDoor
open Go.RowKit
theorem own1_nil {α : Type} (w : World) (base : Nat) (t : TypeId) (size : Nat) (R : List Value → α → Prop) : Own1 w base t size R (.slice none 0 0) ([] : List α) := ⟨[], World.ownsRow_nil _ _ _ _, FlatR.nil_⟩
theorem node_all {l : List ND} {lv : Value} {W0 : World} {g : Nat} : ∀ f, NodeIs l lv W0 g f
  | 0 => fun t p vs W ov vv out H => by
    have := H.deep
    obtain ⟨k, s, n, ks⟩ := t
    simp only [Tr.deep] at this
    omega
  | f + 1 => node_step (node_all f)
def codeT (t : Tr) : List Ins := cR 32 t [] 1
theorem cP_codeT {t : Tr} (hg : t.Good) (hd : t.deep ≤ 32) : cP 32 t [] [] = codeT t := by
  rw [comp_law 32 t [] [] hg hd (fun x hx => by cases hx)]
  exact then_nil _
theorem stands_nds (t : Tr) : Stands (ndsT t 0) t 0 := by
  unfold Stands
  rw [List.drop_zero, List.take_of_length_le (by rw [nds_len]; exact Nat.le_refl _)]
theorem compile_bad {l : List ND} {v : Value} (w w0 : World) (hs : SlR w0 w0.heap.size 4 (ND.Is w0 w0.heap.size) v l) (hok : ∀ d ∈ l, NdOk d) (hm : Marks w0) (hp : Pow w0) (hw : Below w0.heap.size w0 w) (hr : rightE l ≠ 0) :
    Calls Tryz.prog 12 #[.agg #[v]] w fun e w' => e = .returned (.tuple #[.agg #[.slice none 0 0], .int .i64 (rightE l : Int)]) ∧ Below w.heap.size w w' := by
  obtain ⟨a, c, rfl⟩ : ∃ a c, v = .slice a l.length c := by obtain ⟨a, c, h, _⟩ := hs.form; exact ⟨a, c, h⟩
  obtain ⟨n, hn⟩ : ∃ n, l.length = n := ⟨_, rfl⟩
  have HR := zH (right_e ((w.alloc (.cells #[.slice a n c] 37)).alloc (.cells #[.slice none 0 0] 24)) w0 hs hok hm hp ((hw.alloc hw.size _).alloc (Nat.le_trans hw.size (by simp)) _))
  rw [hn] at HR ⊢
  obtain ⟨r, hrr⟩ : ∃ r, rightE l = r := ⟨_, rfl⟩
  rw [hrr] at HR hr ⊢
  have e0 : ((r : Int) != 0) = true := by rw [bne_iff_ne]; omega
  clear hs hok hm hp hw hn hrr hr
  go_enter Tryz.func12, Tryz.ntmps12
  go_wp2_with (first
    | (go_at_call 13; go_must (refine HR.out.mono ?_); rintro e w3 ⟨rfl, hb⟩; have c2 : w3.cell? ⟨w.heap.size + 1, 0, none⟩ = some (.slice none 0 0) := ((Blk.new_ (w := w.alloc (.cells #[.slice a n c] 37)) (g := w.heap.size + 1) (by simp) 24 #[.slice none 0 0]).below hb (by simp)).cell rfl; have z2 : w3.frozen? ⟨w.heap.size + 1, 0, none⟩ = false := ((Blk.new_ (w := w.alloc (.cells #[.slice a n c] 37)) (g := w.heap.size + 1) (by simp) 24 #[.slice none 0 0]).below hb (by simp)).frozen 0; have HB := zH hb; clear hb)
    | fail)
  refine bodyPost_ret (v := .tuple #[.agg #[.slice none 0 0], .int .i64 (r : Int)]) (by simp [results, Tryz.results12, go_sem, c2]) rfl ?_
  exact ⟨rfl, (((zB.alloc zL _).alloc (by simp) _).trans (HB.out.mono (by simp <;> omega))).setCell (p := ⟨w.heap.size + 1, 0, none⟩) (by show w.heap.size ≤ w.heap.size + 1; omega) _⟩
theorem compile_ok {t : Tr} {v : Value} (w w0 : World) (hs : SlR w0 w0.heap.size 4 (ND.Is w0 w0.heap.size) v (ndsT t 0)) (hok : ∀ d ∈ ndsT t 0, NdOk d) (hm : Marks w0) (hp : Pow w0) (hw : Below w0.heap.size w0 w) (hg : t.Good) (hd : t.deep ≤ 32) (hsz : t.size ≤ 256) :
    Calls Tryz.prog 12 #[.agg #[v]] w fun e w' => ∃ ov, e = .returned (.tuple #[.agg #[ov], .int .i64 0]) ∧ Own1 w' w.heap.size 42 4 Ins.Is ov (codeT t) ∧ Below w.heap.size w w' := by
  obtain ⟨l, hl⟩ : ∃ l, ndsT t 0 = l := ⟨_, rfl⟩
  have hst := stands_nds t
  have hr : rightE l = 0 := by rw [← hl]; exact (right_of hg hsz hd).1
  rw [hl] at hs hok hst
  obtain ⟨a, c, rfl⟩ : ∃ a c, v = .slice a l.length c := by obtain ⟨a, c, h, _⟩ := hs.form; exact ⟨a, c, h⟩
  have HR := zH (right_e ((w.alloc (.cells #[.slice a l.length c] 37)).alloc (.cells #[.slice none 0 0] 24)) w0 hs hok hm hp ((hw.alloc hw.size _).alloc (Nat.le_trans hw.size (by simp)) _))
  rw [hr] at HR
  have HS := zH hs
  have HW := zH hw
  have HT := zH (And.intro hg (And.intro hd (And.intro hsz hst)))
  obtain ⟨n, hn⟩ : ∃ n, l.length = n := ⟨_, rfl⟩
  rw [hn] at HR HS ⊢
  clear hs hok hm hp hw hr hg hd hsz hst hl hn
  go_enter Tryz.func12, Tryz.ntmps12
  go_wp2_with (first
    | (go_at_call 13; go_loud (refine HR.out.mono ?_); rintro e w3 ⟨rfl, hb⟩
       have b1 := (((Blk.new w 37 #[.slice a n c]).alloc (.cells #[.slice none 0 0] 24)).below hb (by simp <;> omega))
       have b2 := ((Blk.new_ (w := w.alloc (.cells #[.slice a n c] 37)) (g := w.heap.size + 1) (by simp) 24 #[.slice none 0 0]).below hb (by simp))
       have c1 : w3.cell? ⟨w.heap.size, 0, none⟩ = some (.slice a n c) := b1.cell rfl
       have lt3 := b2.lt
       have hb0 : Below w.heap.size w w3 := (((Below.refl w.heap.size w).alloc zL (.cells #[.slice a n c] 37)).alloc (by simp) (.cells #[.slice none 0 0] 24)).trans (hb.mono (by simp <;> omega))
       have HB := zH hb0
       have B2 := zH b2
       have M3 : Hid (MkSt (w3.alloc (.cells #[.slice a n c, .slice none 0 0, .slice none 0 0] 79)) w3.heap.size (.slice a n c) (.slice none 0 0) (.slice none 0 0) [] []) := zH ⟨Blk.new _ _ _, own1_nil _ _ _ _ _, own1_nil _ _ _ _ _⟩
       go_loud (have PN := zH (show NPre l (.slice a n c) w0 w3.heap.size 32 t 0 [] (w3.alloc (.cells #[.slice a n c, .slice none 0 0, .slice none 0 0] 79)) (.slice none 0 0) (.slice none 0 0) [] from
         ⟨HS.out, Nat.le_trans HW.out.size hb0.size, HT.out.1, HT.out.2.1, HT.out.2.2.2, (HW.out.trans (hb0.mono HW.out.size)).alloc (Nat.le_trans HW.out.size hb0.size) _, M3.out, fun v hv => (by cases hv), fun x hx => (by cases hx), fun x hx => (by cases hx), by have := HT.out.2.2.1; simp <;> omega, by simp⟩))
       clear hb b1 b2 hb0)
    | (go_at_call 26
       go_must (refine (node_all 32 t 0 [] _ _ _ [] PN.out).mono ?_)
       rintro e w5 ⟨rfl, ov, vv, hm5, hk5⟩
       obtain ⟨oa, oc, rfl⟩ := hm5.own.form
       obtain ⟨n5, hn5⟩ : ∃ x, (cP 32 t [] []).length = x := ⟨_, rfl⟩
       rw [hn5] at hm5
       have c5 : w5.cell? ⟨w3.heap.size, 1, none⟩ = some (.slice oa n5 oc) := hm5.blk.cell rfl
       have b5 := hk5.bel.mono (Nat.le_refl w3.heap.size)
       have b25 := (B2.out.alloc (.cells #[.slice a n c, .slice none 0 0, .slice none 0 0] 79)).below b5 lt3
       have c25 : w5.cell? ⟨w.heap.size + 1, 0, none⟩ = some (.slice none 0 0) := b25.cell rfl
       have z25 := b25.frozen 0
       have HM5 := zH hm5
       have HB5 := zH b5
       clear hm5 hk5 b5 b25)
    | fail)
  refine bodyPost_ret (v := .tuple #[.agg #[.slice oa n5 oc], .int .i64 0]) (by simp [results, Tryz.results12, go_sem, c25]) rfl ?_
  refine ⟨.slice oa n5 oc, rfl, ?_, ?_⟩
  · have h := HM5.out.own
    rw [cP_codeT HT.out.1 HT.out.2.1] at h
    exact (h.setFar (p := ⟨w.heap.size + 1, 0, none⟩) (by show w.heap.size + 1 < w3.heap.size + 1; omega) _).mono (by have := HB.out.size; omega)
  · exact ((HB.out.alloc HB.out.size _).trans (HB5.out.mono HB.out.size)).setCell (p := ⟨w.heap.size + 1, 0, none⟩) (by show w.heap.size ≤ w.heap.size + 1; omega) _
end Go.Proofs.YtdkoafmgenbkbaaGreatDoor
namespace Go.Proofs.YtdkoafmgenbkbaaGreatDoor
open Go.RowKit
section
variable {X X' : World} {B : Nat} {v v' : Value} {es : List (EN × Value)}
theorem EL.below (h : EL X B v es) (hb : Below X.heap.size X X') : EL X' B v es :=
  ⟨h.main.stay (fun b _ hl => hb.block b hl), fun i p hp => (h.kids i p hp).stay (fun b _ hl => hb.block b hl), h.apart⟩
end
theorem EL.mono {X : World} {B B' : Nat} {v : Value} {es : List (EN × Value)} (h : EL X B v es) (hb : B' ≤ B) : EL X B' v es :=
  ⟨h.main.mono hb, fun i p hp => (h.kids i p hp).mono hb, h.apart⟩
end Go.Proofs.YtdkoafmgenbkbaaGreatDoor
namespace Go.Proofs.YtdkoafmgenbkbaaGreatDoor
open Go.RowKit
mutual
def goodB : Tr → Bool
  | .node k s n ks => mayE ⟨(k : Int), s, n, ks.map fun _ => 0⟩ && s.all (fun x => decide (x < 256)) && decide (-9223372036854775808 ≤ n) && decide (n ≤ 9223372036854775807) && goodLB ks
def goodLB : List Tr → Bool
  | [] => true
  | t :: ts => goodB t && goodLB ts
end
mutual
theorem good_b : ∀ (t : Tr), goodB t = true → t.Good
  | .node k s n ks, h => by
    simp only [goodB, Bool.and_eq_true, decide_eq_true_eq, List.all_eq_true] at h
    obtain ⟨⟨⟨⟨h1, h2⟩, h3⟩, h4⟩, h5⟩ := h
    exact ⟨⟨shape_of (by simp) h1, h2, h3, h4⟩, good_lb ks h5⟩
theorem good_lb : ∀ (ts : List Tr), goodLB ts = true → GoodL ts
  | [], _ => trivial
  | t :: ts, h => by
    simp only [goodLB, Bool.and_eq_true] at h
    exact ⟨good_b t h.1, good_lb ts h.2⟩
end
def aw1 : Tr := .node 20 [] 0 [.node 8 [97] 0 [.node 5 [] 0 []], .node 1 [] 1 []]
theorem aw1_parse : parseN [115, 101, 108, 102, 46, 97, 32, 43, 32, 49] = (aw1.flat 0, 0, 0) := by decide +kernel
theorem aw1_good : aw1.Good := good_b _ (by decide +kernel)
theorem aw1_size : aw1.size = 4 ∧ aw1.deep ≤ 32 := by decide +kernel
theorem aw1_print : printC (cR 32 aw1 [] 1) = ([115, 116, 101, 112, 32, 51, 10, 115, 101, 108, 102, 10, 112, 114, 111, 112, 32, 97, 10, 115, 116, 101, 112, 32, 49, 10, 105, 110, 116, 32, 49, 10, 97, 100, 100, 10], 0) := by decide +kernel
def aw2 : Tr := .node 31 [120] 0 [.node 9 [98] 0 [.node 5 [] 0 []], .node 23 [] 0 [.node 8 [99] 0 [.node 7 [120] 0 []], .node 2 [] 0 []]]
theorem aw2_parse : parseN [97, 110, 121, 32, 120, 32, 105, 110, 32, 115, 101, 108, 102, 35, 98, 58, 32, 120, 46, 99, 32, 61, 61, 32, 34, 34, 32, 101, 110, 100] = (aw2.flat 0, 0, 0) := by decide +kernel
theorem aw2_good : aw2.Good := good_b _ (by decide +kernel)
theorem aw2_size : aw2.size = 7 ∧ aw2.deep ≤ 32 := by decide +kernel
theorem aw2_print : printC (cR 32 aw2 [] 1) = ([115, 116, 101, 112, 32, 51, 10, 115, 101, 108, 102, 10, 107, 105, 100, 115, 32, 98, 10, 97, 110, 121, 10, 110, 101, 120, 116, 32, 49, 50, 10, 115, 116, 101, 112, 32, 51, 10, 108, 111, 97, 100, 32, 48, 10, 112, 114, 111, 112, 32, 99, 10, 115, 116, 101, 112, 32, 49, 10, 116, 101, 120, 116, 32, 34, 34, 10, 101, 113, 10, 116, 97, 107, 101, 32, 52, 10], 0) := by decide +kernel
theorem aw3_right : rightC [insI 6 0, insI 6 0] = (2, 110) ∧ rightC [] = (0, 110) := by decide +kernel
theorem aw4_parse : parseC [115, 101, 108, 102, 10, 108, 111, 97, 100, 32, 48, 48, 10] = ([], 1, 110) := by decide +kernel
end Go.Proofs.YtdkoafmgenbkbaaGreatDoor
namespace Go.Proofs.YtdkoafmgenbkbaaGreatDoor
open Go.RowKit
theorem right_tr {t : Tr} (hg : t.Good) : rightE (ndsT t 0) = if 256 < t.size ∨ 32 < t.deep then 4 else 0 := by
  have hst : Stands (ndsT t 0) t 0 := by
    unfold Stands
    rw [List.drop_zero, List.take_of_length_le (by rw [nds_len]; exact Nat.le_refl _)]
  obtain ⟨h1, h2⟩ := met_of (l := ndsT t 0) t (ndsT t 0).length 0 (by rw [nds_len]; exact Nat.le_refl _) hg hst
  unfold rightE
  rw [h1, nds_len]
  by_cases hs : 256 < t.size
  · rw [if_pos hs, if_pos (.inl hs)]
  · rw [if_neg hs]
    simp only
    rw [if_neg (by omega)]
    by_cases hd : 32 < t.deep
    · rw [if_pos hd, if_pos (.inr hd)]
    · rw [if_neg hd, if_neg (by omega)]
def isVB (k : Nat) : Bool := decide (k = 7) || (decide (31 ≤ k) && decide (k ≤ 34))
def rnN (a b s : List Nat) : List Nat := if s = a then b else s
mutual
def rnT (a b : List Nat) : Tr → Tr
  | .node k s n ks => .node k (if isVB k = true then rnN a b s else s) n (rnL a b ks)
def rnL (a b : List Nat) : List Tr → List Tr
  | [] => []
  | t :: ts => rnT a b t :: rnL a b ts
end
mutual
def noB (b : List Nat) : Tr → Prop
  | .node k s _ ks => (isVB k = true → s ≠ b) ∧ noBL b ks
def noBL (b : List Nat) : List Tr → Prop
  | [] => True
  | t :: ts => noB b t ∧ noBL b ts
end
mutual
theorem rn_size (a b : List Nat) : ∀ t : Tr, (rnT a b t).size = t.size ∧ (rnT a b t).deep = t.deep
  | .node k s n ks => by
    have := rnL_size a b ks
    simp only [rnT, Tr.size, Tr.deep, this]
    exact ⟨trivial, trivial⟩
theorem rnL_size (a b : List Nat) : ∀ ts : List Tr, sizeL (rnL a b ts) = sizeL ts ∧ deepL (rnL a b ts) = deepL ts
  | [] => ⟨rfl, rfl⟩
  | t :: ts => by
    have h1 := rn_size a b t
    have h2 := rnL_size a b ts
    simp only [rnL, sizeL, deepL, h1, h2]
    exact ⟨trivial, trivial⟩
end
theorem rnL_places (a b : List Nat) : ∀ (ts : List Tr) (p : Nat), placesL (rnL a b ts) p = placesL ts p
  | [], p => rfl
  | t :: ts, p => by simp only [rnL, placesL]; rw [(rn_size a b t).1, rnL_places a b ts]
def rnD (a b : List Nat) (d : ND) : ND := if (d.kind = 7 ∨ (31 ≤ d.kind ∧ d.kind ≤ 34)) ∧ d.text = a then ⟨d.kind, b, d.num, d.kids⟩ else d
theorem isVB_iff {k : Nat} : isVB k = true ↔ ((k : Int) = 7 ∨ (31 ≤ (k : Int) ∧ (k : Int) ≤ 34)) := by
  unfold isVB
  simp
  omega
mutual
theorem nds_rn (a b : List Nat) : ∀ (t : Tr) (p : Nat), (ndsT t p).map (rnD a b) = ndsT (rnT a b t) p
  | .node k s n ks, p => by
    simp only [ndsT, rnT, Tr.flat, List.map_cons]
    rw [rnL_places]
    have h := ndsL_rn a b ks (p + 1)
    unfold ndsL at h
    rw [← h]
    congr 1
    unfold rnD EN.nd
    simp only
    by_cases hv : isVB k = true
    · rw [if_pos hv]
      unfold rnN
      by_cases hs : s = a
      · rw [if_pos ⟨isVB_iff.1 hv, hs⟩, if_pos hs]
      · rw [if_neg (fun h => hs h.2), if_neg hs]
    · rw [if_neg hv, if_neg (fun h => hv (isVB_iff.2 h.1))]
theorem ndsL_rn (a b : List Nat) : ∀ (ts : List Tr) (p : Nat), (ndsL ts p).map (rnD a b) = ndsL (rnL a b ts) p
  | [], p => by simp [ndsL, rnL, flatL]
  | t :: ts, p => by
    have h1 := nds_rn a b t p
    have h2 := ndsL_rn a b ts (p + t.size)
    unfold ndsT at h1
    unfold ndsL at h2
    simp only [ndsL, rnL, flatL, List.map_append]
    rw [h1, h2, (rn_size a b t).1]
end
mutual
theorem noB_of (b : List Nat) : ∀ (t : Tr) (p : Nat), (∀ d ∈ ndsT t p, (d.kind = 7 ∨ (31 ≤ d.kind ∧ d.kind ≤ 34)) → d.text ≠ b) → noB b t
  | .node k s n ks, p, h => by
    refine ⟨fun hv => ?_, noBL_of b ks (p + 1) (fun d hd => h d ?_)⟩
    · exact h ⟨(k : Int), s, n, (placesL ks (p + 1)).map fun n : Nat => (n : Int)⟩ (by simp [ndsT, Tr.flat, EN.nd]) (isVB_iff.1 hv)
    · simp only [ndsT, Tr.flat, List.map_cons]
      exact List.mem_cons.2 (.inr hd)
theorem noBL_of (b : List Nat) : ∀ (ts : List Tr) (p : Nat), (∀ d ∈ ndsL ts p, (d.kind = 7 ∨ (31 ≤ d.kind ∧ d.kind ≤ 34)) → d.text ≠ b) → noBL b ts
  | [], p, h => trivial
  | t :: ts, p, h => by
    refine ⟨noB_of b t p (fun d hd => h d ?_), noBL_of b ts (p + t.size) (fun d hd => h d ?_)⟩
    · simp only [ndsL, flatL, List.map_append]; exact List.mem_append.2 (.inl hd)
    · simp only [ndsL, flatL, List.map_append]; exact List.mem_append.2 (.inr hd)
end
mutual
theorem good_list : ∀ (t : Tr) (p : Nat), (∀ d ∈ ndsT t p, mayE d = true ∧ NdOk d) → t.Good
  | .node k s n ks, p, h => by
    have h0 := h ⟨(k : Int), s, n, (placesL ks (p + 1)).map fun n : Nat => (n : Int)⟩ (by simp [ndsT, Tr.flat, EN.nd])
    refine ⟨⟨shape_of (by simp [places_len]) h0.1, h0.2.1, h0.2.2.2.1, h0.2.2.2.2⟩, goodL_list ks (p + 1) (fun d hd => h d ?_)⟩
    simp only [ndsT, Tr.flat, List.map_cons]
    exact List.mem_cons.2 (.inr hd)
theorem goodL_list : ∀ (ts : List Tr) (p : Nat), (∀ d ∈ ndsL ts p, mayE d = true ∧ NdOk d) → GoodL ts
  | [], p, h => trivial
  | t :: ts, p, h => by
    refine ⟨good_list t p (fun d hd => h d ?_), goodL_list ts (p + t.size) (fun d hd => h d ?_)⟩
    · simp only [ndsL, flatL, List.map_append]; exact List.mem_append.2 (.inl hd)
    · simp only [ndsL, flatL, List.map_append]; exact List.mem_append.2 (.inr hd)
end
theorem rnN_inj {a b x y : List Nat} (hx : x ≠ b) (hy : y ≠ b) : rnN a b x = rnN a b y ↔ x = y := by
  constructor
  · unfold rnN
    intro h
    split at h
    · split at h
      · simp [*]
      · exact absurd h.symm hy
    · split at h
      · exact absurd h hx
      · exact h
  · rintro rfl; rfl
end Go.Proofs.YtdkoafmgenbkbaaGreatDoor
namespace Go.Proofs.YtdkoafmgenbkbaaGreatDoor
open Go.RowKit
theorem find_rn {a b s : List Nat} (hs : s ≠ b) : ∀ l : List (List Nat), (∀ v ∈ l, v ≠ b) → (l.map (rnN a b)).findIdx? (fun x => decide (x = rnN a b s)) = l.findIdx? (fun x => decide (x = s))
  | [], _ => rfl
  | v :: l, h => by
    have h1 := rnN_inj (a := a) (h v (by simp)) hs
    have h2 := find_rn (a := a) hs l (fun v hv => h v (by simp [hv]))
    rw [List.map_cons, List.findIdx?_cons, List.findIdx?_cons, h2]
    have e : decide (rnN a b v = rnN a b s) = decide (v = s) := by rw [decide_eq_decide]; exact h1
    rw [e]
theorem leaf_rn {a b : List Nat} {k : Nat} {s : List Nat} {n : Int} {vs : List (List Nat)} (hk : k ≤ 7) (hs : isVB k = true → s ≠ b) (hv : ∀ v ∈ vs, v ≠ b) : leafI k (if isVB k = true then rnN a b s else s) n (vs.map (rnN a b)) = leafI k s n vs := by
  unfold leafI
  by_cases h7 : k = 7
  · have hb : isVB k = true := isVB_iff.2 (by omega)
    rw [if_pos hb, if_neg (by omega), if_neg (by omega), if_pos h7, if_neg (by omega), if_neg (by omega), if_pos h7]
    unfold varI
    rw [← List.map_reverse, find_rn (hs hb) vs.reverse (fun v h => hv v (by simpa using h))]
  · have hb : ¬ isVB k = true := fun h => by have := isVB_iff.1 h; omega
    rw [if_neg hb]
    simp only [h7, if_false]
theorem cR_rn {a b : List Nat} : ∀ {f : Nat} {t : Tr} {vs : List (List Nat)} {m : Int}, t.Good → t.deep ≤ f → noB b t → (∀ v ∈ vs, v ≠ b) → cR f (rnT a b t) (vs.map (rnN a b)) m = cR f t vs m
  | 0, .node k s n ks, vs, m, hg, hd, hn, hv => by simp only [Tr.deep] at hd; omega
  | f + 1, .node k s n ks, vs, m, hg, hd, hn, hv => by
    have hd1 := deep_one hd
    have hvs : 31 ≤ k → k ≤ 34 → (∀ v ∈ vs ++ [s], v ≠ b) := fun h1 h2 v h => by
      rcases List.mem_append.1 h with h3 | h3
      · exact hv v h3
      · simp at h3; subst h3; exact hn.1 (isVB_iff.2 (by omega))
    rcases shape_cases hg.1.1 with ⟨rfl, h1, h2⟩ | ⟨x, rfl, h1⟩ | ⟨x, y, rfl, h1⟩ | ⟨x, y, z, rfl, h1⟩
    · simp only [rnT, rnL, cR]
      rw [leaf_rn h2 hn.1 hv]
    · simp only [deepL] at hd1
      have hb : ¬ isVB k = true := fun h => by have := isVB_iff.1 h; omega
      simp only [rnT, rnL, cR, if_neg hb]
      rw [cR_rn hg.2.1 (by omega) hn.2.1 hv]
    · simp only [deepL] at hd1
      have e1 := cR_rn (a := a) (f := f) (vs := vs) (m := m + 1) hg.2.1 (by omega) hn.2.1 hv
      simp only [rnT, rnL, cR]
      rw [e1]
      by_cases c1 : k = 27 ∨ k = 28
      · rw [if_pos c1, if_pos c1, cR_rn hg.2.2.1 (by omega) hn.2.2.1 hv]
      · rw [if_neg c1, if_neg c1]
        by_cases c2 : 31 ≤ k ∧ k ≤ 34
        · have hb : isVB k = true := isVB_iff.2 (by omega)
          rw [if_pos c2, if_pos c2, if_pos hb]
          have e : vs.map (rnN a b) ++ [rnN a b s] = (vs ++ [s]).map (rnN a b) := by simp
          rw [e, cR_rn hg.2.2.1 (by omega) hn.2.2.1 (hvs c2.1 c2.2)]
        · have hb : ¬ isVB k = true := fun h => by have := isVB_iff.1 h; omega
          rw [if_neg c2, if_neg c2, if_neg hb, cR_rn hg.2.2.1 (by omega) hn.2.2.1 hv]
    · simp only [deepL] at hd1
      simp only [rnT, rnL, cR]
      rw [cR_rn hg.2.1 (by omega) hn.2.1 hv, cR_rn hg.2.2.1 (by omega) hn.2.2.1 hv, cR_rn hg.2.2.2.1 (by omega) hn.2.2.2.1 hv]
end Go.Proofs.YtdkoafmgenbkbaaGreatDoor
namespace Go.Proofs.YtdkoafmgenbkbaaGreatDoor
open Go.RowKit
mutual
def bareV : Tr → Bool
  | .node k _ _ ks => decide (k ≠ 7) && decide (¬ (31 ≤ k ∧ k ≤ 34)) && bareVL ks
def bareVL : List Tr → Bool
  | [] => true
  | t :: ts => bareV t && bareVL ts
end
def ldT : Nat → Tr → Nat
  | 0, _ => 0
  | f + 1, .node _ _ _ ks => match ks with
    | [] => 1
    | a :: _ => ldT f a + 1
theorem onI_inj {n : Nat} {x y : Ins} (h : onI n x = onI n y) : x = y := by
  have ho : x.op = y.op := by rw [← onI_op n x, ← onI_op n y, h]
  unfold onI at h
  rw [ho] at h
  split at h
  · cases x; cases y
    simp only [Ins.mk.injEq] at h ⊢
    exact ⟨ho, by omega, h.2.2.1, h.2.2.2⟩
  · exact h
theorem ld_pos : ∀ (f : Nat) (t : Tr), t.deep ≤ f → 1 ≤ ldT f t
  | 0, .node k s n ks, h => by simp only [Tr.deep] at h; omega
  | f + 1, .node k s n [], h => by simp [ldT]
  | f + 1, .node k s n (a :: rs), h => by simp [ldT]
theorem cR_head : ∀ (f : Nat) (t : Tr) (vs : List (List Nat)) (m : Int), t.Good → t.deep ≤ f → ∃ r, cR f t vs m = insI 1 (m + (ldT f t : Int) - 1) :: r
  | 0, .node k s n ks, vs, m, hg, hd => by simp only [Tr.deep] at hd; omega
  | f + 1, .node k s n ks, vs, m, hg, hd => by
    have hd1 := deep_one hd
    rcases shape_cases hg.1.1 with ⟨rfl, h1, h2⟩ | ⟨x, rfl, h1⟩ | ⟨x, y, rfl, h1⟩ | ⟨x, y, z, rfl, h1⟩
    · exact ⟨[leafI k s n vs], by simp only [cR, ldT]; congr 2; omega⟩
    all_goals
      simp only [deepL] at hd1
      obtain ⟨r, hr⟩ := cR_head f x vs (m + 1) hg.2.1 (by omega)
      have e : m + 1 + (ldT f x : Int) - 1 = m + ((ldT f x + 1 : Nat) : Int) - 1 := by omega
      rw [e] at hr
      simp only [cR, ldT, hr]
    · exact ⟨_, rfl⟩
    · split
      · exact ⟨_, rfl⟩
      · split
        · exact ⟨_, rfl⟩
        · exact ⟨_, rfl⟩
    · exact ⟨_, rfl⟩
theorem sameN_inj {k g : Nat} (h1 : (3 ≤ k ∧ k ≤ 6) ∨ (8 ≤ k ∧ k ≤ 26) ∨ k = 29) (h2 : (3 ≤ g ∧ g ≤ 6) ∨ (8 ≤ g ∧ g ≤ 26) ∨ g = 29) (h : sameN k = sameN g) : k = g := by
  unfold sameN at h
  repeat' split at h
  all_goals omega
theorem txt_inj8 {s u : List Nat} (hs : Bytes s) (hu : Bytes u) (h : txt s = txt u) : s = u := by
  rw [← bs_txt hs, ← bs_txt hu, h]
theorem shape_bare {k : Nat} {s : List Nat} {n : Int} {ks : List Tr} (h : Shape k s n ks) : (k ≠ 1 → n = 0) ∧ (((3 ≤ k ∧ k ≤ 6) ∨ k = 27 ∨ k = 28 ∨ k = 30 ∨ k = 1) → s = []) := by
  have s1 : ∀ y ∈ signsL, y.2.2 = 7 → 8 ≤ y.2.1 ∧ y.2.1 ≤ 13 := by decide
  have o2 : ∀ y ∈ onesL, y.2.2 = 2 → 31 ≤ y.2.1 ∧ y.2.1 ≤ 34 := by decide
  cases h with
  | int _ => exact ⟨fun h => absurd rfl h, fun _ => rfl⟩
  | text _ => exact ⟨fun _ => rfl, fun h => by omega⟩
  | name _ => exact ⟨fun _ => rfl, fun h => by omega⟩
  | post h1 h2 _ _ => exact ⟨fun _ => rfl, fun h => by have := s1 _ h1 h2; omega⟩
  | loop h1 h2 _ => exact ⟨fun _ => rfl, fun h => by have := o2 _ h1 h2; omega⟩
  | _ => exact ⟨fun _ => rfl, fun _ => rfl⟩
theorem kind_many {k : Nat} {s : List Nat} {n : Int} {x : Tr} {r : List Tr} (h : Shape k s n (x :: r)) : 8 ≤ k ∧ k ≤ 34 := by
  rcases shape_cases h with ⟨h, _⟩ | ⟨_, _, h⟩ | ⟨_, _, _, h⟩ | ⟨_, _, _, _, h⟩
  · cases h
  all_goals omega
def tlT (f k : Nat) (s : List Nat) (L : Nat) (r : List Tr) : List Ins :=
  match r with
  | [] => [⟨sameN k, 0, 0, txt s⟩]
  | [b] => if k = 27 ∨ k = 28 then insI (k + 3) (L + 1 + (cR f b [] 1).length + 1) :: ((cR f b [] 1).map (onI (L + 1)) ++ [insI 32 0]) else (cR f b [] 1).map (onI L) ++ [⟨sameN k, 0, 0, txt s⟩]
  | [b, c] => insI 33 (L + 1 + (cR f b [] 1).length + 1) :: ((cR f b [] 1).map (onI (L + 1)) ++ insI 34 ((L + 1 + (cR f b [] 1).length + 1 : Int) + (cR f c [] 1).length) :: (cR f c [] 1).map (onI (L + 1 + (cR f b [] 1).length + 1)))
  | _ => []
theorem cR_tl {f k : Nat} {s : List Nat} {n m : Int} {x : Tr} {r : List Tr} (hg : (Tr.node k s n (x :: r)).Good) (hk : ¬ (31 ≤ k ∧ k ≤ 34)) : cR (f + 1) (.node k s n (x :: r)) [] m = cR f x [] (m + 1) ++ tlT f k s (cR f x [] (m + 1)).length r := by
  rcases shape_cases hg.1.1 with ⟨h, _⟩ | ⟨x', h, h1⟩ | ⟨x', y, h, h1⟩ | ⟨x', y, z, h, h1⟩
  · cases h
  all_goals
    injection h with e1 e2
    subst e1 e2
  · rfl
  · simp only [cR, tlT, thenN]
    by_cases c : k = 27 ∨ k = 28
    · rw [if_pos c, if_pos c]; simp
    · rw [if_neg c, if_neg c, if_neg hk]; simp
  · simp only [cR, tlT, thenN]
    simp [List.append_assoc]
    intro a _
    have e : (cR f x [] (m + 1)).length + ((cR f y [] 1).length + 1 + 1) = (cR f x [] (m + 1)).length + 1 + (cR f y [] 1).length + 1 := by omega
    rw [e]
def opT (k : Nat) : Int := if k = 27 ∨ k = 28 then k + 3 else if 20 ≤ k ∧ k ≤ 26 then 1 else if k = 30 then 33 else sameN k
theorem tl_op {f k : Nat} {s : List Nat} {n : Int} {x : Tr} {r : List Tr} (hg : (Tr.node k s n (x :: r)).Good) (hd : deepL (x :: r) ≤ f) (hk : ¬ (31 ≤ k ∧ k ≤ 34)) (L z : Nat) : ∃ i rest, (tlT f k s L r).map (onI z) = i :: rest ∧ i.op = opT k := by
  rcases shape_cases hg.1.1 with ⟨h, _⟩ | ⟨x', h, h1⟩ | ⟨x', y, h, h1⟩ | ⟨x', y, w, h, h1⟩
  · cases h
  all_goals
    injection h with e1 e2
    subst e1 e2
  · refine ⟨_, _, rfl, ?_⟩
    rw [onI_op]
    unfold opT
    rw [if_neg (by omega), if_neg (by omega), if_neg (by omega)]
  · simp only [tlT]
    simp only [deepL] at hd
    by_cases c : k = 27 ∨ k = 28
    · rw [if_pos c]
      refine ⟨_, _, rfl, ?_⟩
      rw [onI_op]
      unfold opT
      rw [if_pos c]
      rfl
    · rw [if_neg c]
      obtain ⟨q, hq⟩ := cR_head f y [] 1 hg.2.2.1 (by omega)
      rw [hq]
      refine ⟨_, _, rfl, ?_⟩
      rw [onI_op, onI_op]
      unfold opT
      rw [if_neg c, if_pos (by omega)]
      rfl
  · simp only [tlT]
    refine ⟨_, _, rfl, ?_⟩
    rw [onI_op]
    subst h1
    rfl
theorem map_on (l : List Ins) (a b : Nat) : (l.map (onI a)).map (onI b) = l.map (onI (b + a)) := by
  rw [List.map_map]
  exact List.map_congr_left fun x _ => onI_on b a x
theorem sameN_val {k : Nat} (h : (8 ≤ k ∧ k ≤ 26) ∨ k = 29) : (8 ≤ k ∧ k ≤ 26 ∧ sameN k = (k : Int) + 2) ∨ (k = 29 ∧ sameN k = 29) := by
  unfold sameN
  rcases h with h | h
  · rw [if_neg (by omega), if_pos h]; exact .inl ⟨h.1, h.2, rfl⟩
  · rw [if_neg (by omega), if_neg (by omega)]; exact .inr ⟨h, rfl⟩
theorem op_class {k g : Nat} (h1 : (8 ≤ k ∧ k ≤ 30)) (h2 : (8 ≤ g ∧ g ≤ 30)) (h : opT k = opT g) : (k = g ∧ ((8 ≤ k ∧ k ≤ 19) ∨ k = 29)) ∨ (k = g ∧ (k = 27 ∨ k = 28)) ∨ ((20 ≤ k ∧ k ≤ 26) ∧ 20 ≤ g ∧ g ≤ 26) ∨ (k = 30 ∧ g = 30) := by
  have v : ∀ k : Nat, 8 ≤ k ∧ k ≤ 30 → ((k = 27 ∨ k = 28) ∧ opT k = k + 3) ∨ ((20 ≤ k ∧ k ≤ 26) ∧ opT k = 1) ∨ (k = 30 ∧ opT k = 33) ∨ ((8 ≤ k ∧ k ≤ 19) ∧ opT k = k + 2) ∨ (k = 29 ∧ opT k = 29) := by
    intro k hk
    unfold opT
    by_cases c1 : k = 27 ∨ k = 28
    · rw [if_pos c1]; exact .inl ⟨c1, rfl⟩
    · rw [if_neg c1]
      by_cases c2 : 20 ≤ k ∧ k ≤ 26
      · rw [if_pos c2]; exact .inr (.inl ⟨c2, rfl⟩)
      · rw [if_neg c2]
        by_cases c3 : k = 30
        · rw [if_pos c3]; exact .inr (.inr (.inl ⟨c3, rfl⟩))
        · rw [if_neg c3]
          rcases sameN_val (k := k) (by omega) with h | h
          · exact .inr (.inr (.inr (.inl ⟨by omega, h.2.2⟩)))
          · exact .inr (.inr (.inr (.inr h)))
  have := v k h1
  have := v g h2
  omega
theorem tl_cancel {f k k2 : Nat} {s s2 : List Nat} {nn nn2 : Int} {x : Tr} {r r2 : List Tr} {L n : Nat} {X Y : List Ins} (hg : (Tr.node k s nn (x :: r)).Good) (hg2 : (Tr.node k2 s2 nn2 (x :: r2)).Good) (hd : deepL (x :: r) ≤ f) (hd2 : deepL (x :: r2) ≤ f) (hk : ¬ (31 ≤ k ∧ k ≤ 34)) (hk2 : ¬ (31 ≤ k2 ∧ k2 ≤ 34))
    (hb : bareVL r = true) (hb2 : bareVL r2 = true)
    (sec : ∀ (a b : Tr) (z : Nat) (X' Y' : List Ins), a.Good → b.Good → a.deep ≤ f → b.deep ≤ f → bareV a = true → bareV b = true → (cR f a [] 1).map (onI z) ++ X' = (cR f b [] 1).map (onI z) ++ Y' → a = b ∧ X' = Y')
    (he : (tlT f k s L r).map (onI n) ++ X = (tlT f k2 s2 L r2).map (onI n) ++ Y) : k = k2 ∧ s = s2 ∧ nn = nn2 ∧ r = r2 ∧ X = Y := by
  have hsb := shape_bare hg.1.1
  have hsb2 := shape_bare hg2.1.1
  have hkr := kind_many hg.1.1
  have hkr2 := kind_many hg2.1.1
  have hnn : nn = nn2 := by rw [hsb.1 (by omega), hsb2.1 (by omega)]
  obtain ⟨i, rest, hi, hio⟩ := tl_op hg hd hk L n
  obtain ⟨i2, rest2, hi2, hio2⟩ := tl_op hg2 hd2 hk2 L n
  have hop : opT k = opT k2 := by
    rw [hi, hi2, List.cons_append, List.cons_append] at he
    injection he with h1 _
    rw [← hio, ← hio2, h1]
  clear hi hi2 hio hio2
  have hcl := op_class (by omega) (by omega) hop
  clear hop
  have fin : ∀ {k k2 : Nat} {s s2 : List Nat}, Bytes s → Bytes s2 → onI n ⟨sameN k, 0, 0, txt s⟩ = onI n ⟨sameN k2, 0, 0, txt s2⟩ → sameN k = sameN k2 ∧ s = s2 := by
    intro k k2 s s2 h1 h2 h
    have h3 := onI_inj h
    injection h3 with h4 _ _ h5
    exact ⟨h4, txt_inj8 h1 h2 h5⟩
  rcases shape_cases hg.1.1 with ⟨h, _⟩ | ⟨x', h, h1⟩ | ⟨x', y, h, h1⟩ | ⟨x', y, w, h, h1⟩
  · cases h
  all_goals
    injection h with e1 e2
    subst e1 e2
  all_goals
    rcases shape_cases hg2.1.1 with ⟨h, _⟩ | ⟨x', h, h2⟩ | ⟨x', y2, h, h2⟩ | ⟨x', y2, w2, h, h2⟩
    · cases h
  all_goals
    injection h with e1 e2
    subst e1 e2
  all_goals try (exfalso; omega)
  · simp only [tlT, List.map_cons, List.map_nil, List.cons_append, List.nil_append] at he
    injection he with h3 h4
    exact ⟨by omega, (fin hg.1.2.1 hg2.1.2.1 h3).2, hnn, rfl, h4⟩
  · simp only [deepL] at hd hd2
    simp only [bareVL, Bool.and_eq_true] at hb hb2
    simp only [tlT] at he
    by_cases c : k = 27 ∨ k = 28
    · have c2 : k2 = 27 ∨ k2 = 28 := by omega
      rw [if_pos c, if_pos c2, List.map_cons, List.map_cons, List.cons_append, List.cons_append, List.map_append, List.map_append, map_on, map_on, List.append_assoc, List.append_assoc] at he
      injection he with h3 h4
      obtain ⟨h5, h6⟩ := sec _ _ _ _ _ hg.2.2.1 hg2.2.2.1 (by omega) (by omega) hb.1 hb2.1 h4
      simp only [List.map_cons, List.map_nil, List.cons_append, List.nil_append] at h6
      injection h6 with _ h6
      exact ⟨by omega, by rw [hsb.2 (by omega), hsb2.2 (by omega)], hnn, by rw [h5], h6⟩
    · have c2 : ¬ (k2 = 27 ∨ k2 = 28) := by omega
      rw [if_neg c, if_neg c2, List.map_append, List.map_append, map_on, map_on, List.append_assoc, List.append_assoc] at he
      obtain ⟨h5, h6⟩ := sec _ _ _ _ _ hg.2.2.1 hg2.2.2.1 (by omega) (by omega) hb.1 hb2.1 he
      simp only [List.map_cons, List.map_nil, List.cons_append, List.nil_append] at h6
      injection h6 with h7 h6
      have h8 := fin hg.1.2.1 hg2.1.2.1 h7
      exact ⟨sameN_inj (by omega) (by omega) h8.1, h8.2, hnn, by rw [h5], h6⟩
  · simp only [deepL] at hd hd2
    simp only [bareVL, Bool.and_eq_true] at hb hb2
    simp only [tlT] at he
    rw [List.map_cons, List.map_cons, List.cons_append, List.cons_append, List.map_append, List.map_append, map_on, map_on, List.append_assoc, List.append_assoc] at he
    injection he with h3 h4
    obtain ⟨h5, h6⟩ := sec _ _ _ _ _ hg.2.2.1 hg2.2.2.1 (by omega) (by omega) hb.1 hb2.1 h4
    subst h5
    rw [List.map_cons, List.map_cons, List.cons_append, List.cons_append, map_on, map_on] at h6
    injection h6 with _ h6
    obtain ⟨h7, h8⟩ := sec _ _ _ _ _ hg.2.2.2.1 hg2.2.2.2.1 (by omega) (by omega) hb.2.1 hb2.2.1 h6
    exact ⟨by omega, by rw [hsb.2 (by omega), hsb2.2 (by omega)], hnn, by rw [h7], h8⟩
theorem cR_cancel : ∀ (f : Nat) (t u : Tr) (m : Int) (n : Nat) (X Y : List Ins), t.Good → u.Good → t.deep ≤ f → u.deep ≤ f → bareV t = true → bareV u = true → ldT f t = ldT f u →
    (cR f t [] m).map (onI n) ++ X = (cR f u [] m).map (onI n) ++ Y → t = u ∧ X = Y
  | 0, .node k s nn ks, u, m, n, X, Y, hg, hg2, hd, hd2, hb, hb2, hl, he => by simp only [Tr.deep] at hd; omega
  | f + 1, .node k s nn ks, .node k2 s2 nn2 ks2, m, n, X, Y, hg, hg2, hd, hd2, hb, hb2, hl, he => by
    have hd1 := deep_one hd
    have hd3 := deep_one hd2
    simp only [bareV, Bool.and_eq_true, decide_eq_true_eq] at hb hb2
    have hsb := shape_bare hg.1.1
    have hsb2 := shape_bare hg2.1.1
    have hbs := hg.1.2.1
    have hbs2 := hg2.1.2.1
    -- two codes of parts, one of them by itself
    have noB : ∀ (a : Tr) (z : Nat) (X' Y' : List Ins) (i : Ins), a.Good → a.deep ≤ f → i.op ≠ 1 → (cR f a [] 1).map (onI z) ++ X' = i :: Y' → False := by
      intro a z X' Y' i ga da hi h
      obtain ⟨r, hr⟩ := cR_head f a [] 1 ga da
      rw [hr, List.map_cons, List.cons_append] at h
      injection h with h1 h2
      have : (onI z (insI 1 (1 + (ldT f a : Int) - 1))).op = 1 := by rw [onI_op]; rfl
      rw [h1] at this
      exact hi this
    have sec : ∀ (a b : Tr) (z : Nat) (X' Y' : List Ins), a.Good → b.Good → a.deep ≤ f → b.deep ≤ f → bareV a = true → bareV b = true → (cR f a [] 1).map (onI z) ++ X' = (cR f b [] 1).map (onI z) ++ Y' → a = b ∧ X' = Y' := by
      intro a b z X' Y' ga gb da db ba bb h
      have hld : ldT f a = ldT f b := by
        obtain ⟨r, hr⟩ := cR_head f a [] 1 ga da
        obtain ⟨q, hq⟩ := cR_head f b [] 1 gb db
        rw [hr, hq, List.map_cons, List.map_cons, List.cons_append, List.cons_append] at h
        injection h with h1 _
        have h2 := onI_inj h1
        unfold insI at h2
        injection h2 with _ h3
        omega
      exact cR_cancel f a b 1 z X' Y' ga gb da db ba bb hld h
    have hop : ∀ (k : Nat), ((8 ≤ k ∧ k ≤ 19) ∨ k = 29 ∨ (20 ≤ k ∧ k ≤ 26)) → hasN (sameN k) ≠ 5 ∧ sameN k ≠ 1 := fun k h => by
      have := sameN_has (k := k) (by omega) (by omega) (by omega)
      exact ⟨this.2, this.1⟩
    rcases shape_cases hg.1.1 with ⟨rfl, h1, h2⟩ | ⟨x, rfl, h1⟩ | ⟨x, y, rfl, h1⟩ | ⟨x, y, z, rfl, h1⟩
    · -- a leaf
      have hks2 : ks2 = [] := by
        cases ks2 with
        | nil => rfl
        | cons a rs =>
          exfalso
          simp only [ldT] at hl
          simp only [deepL] at hd3
          have := ld_pos f a (by omega)
          omega
      subst hks2
      obtain ⟨c, hc1, hc2⟩ : 1 ≤ k2 ∧ k2 ≤ 7 ∧ True := by
        rcases shape_cases hg2.1.1 with ⟨_, h3, h4⟩ | ⟨_, h, _⟩ | ⟨_, _, h, _⟩ | ⟨_, _, _, h, _⟩
        · exact ⟨h3, h4, trivial⟩
        all_goals cases h
      simp only [cR, List.map_cons, List.map_nil, List.cons_append, List.nil_append] at he
      injection he with _ he
      injection he with he1 he2
      rw [onI_none (leaf_op h1 h2).2, onI_none (leaf_op c hc1).2] at he1
      refine ⟨?_, he2⟩
      have key : k = k2 ∧ s = s2 ∧ nn = nn2 := by
        unfold leafI at he1
        by_cases k1 : k = 1
        · rw [if_pos k1] at he1
          by_cases k3 : k2 = 1
          · rw [if_pos k3] at he1
            injection he1 with _ _ h5
            exact ⟨by omega, by rw [hsb.2 (by omega), hsb2.2 (by omega)], h5⟩
          · rw [if_neg k3] at he1
            exfalso
            by_cases k4 : k2 = 2
            · rw [if_pos k4] at he1; injection he1 with h5; cases h5
            · rw [if_neg k4, if_neg hb2.1.1] at he1
              injection he1 with h5
              unfold sameN at h5
              repeat' split at h5
              all_goals omega
        · rw [if_neg k1] at he1
          by_cases k4 : k = 2
          · rw [if_pos k4] at he1
            by_cases k3 : k2 = 1
            · rw [if_pos k3] at he1; injection he1 with h5; cases h5
            · rw [if_neg k3] at he1
              by_cases k5 : k2 = 2
              · rw [if_pos k5] at he1
                injection he1 with _ _ _ h5
                exact ⟨by omega, txt_inj8 hbs hbs2 h5, by rw [hsb.1 k1, hsb2.1 k3]⟩
              · rw [if_neg k5, if_neg hb2.1.1] at he1
                injection he1 with h5
                exfalso
                unfold sameN at h5
                repeat' split at h5
                all_goals omega
          · rw [if_neg k4, if_neg hb.1.1] at he1
            by_cases k3 : k2 = 1
            · rw [if_pos k3] at he1
              injection he1 with h5
              exfalso
              unfold sameN at h5
              repeat' split at h5
              all_goals omega
            · rw [if_neg k3] at he1
              by_cases k5 : k2 = 2
              · rw [if_pos k5] at he1
                injection he1 with h5
                exfalso
                unfold sameN at h5
                repeat' split at h5
                all_goals omega
              · rw [if_neg k5, if_neg hb2.1.1] at he1
                injection he1 with h5 _ _ h6
                exact ⟨sameN_inj (.inl (by omega)) (.inl (by omega)) h5, txt_inj8 hbs hbs2 h6, by rw [hsb.1 k1, hsb2.1 k3]⟩
      rw [key.1, key.2.1, key.2.2]
    all_goals
      -- a node with parts: so has the other one
      obtain ⟨x2, r2, hr2⟩ : ∃ x2 r2, ks2 = x2 :: r2 := by
        cases ks2 with
        | cons a rs => exact ⟨a, rs, rfl⟩
        | nil =>
          exfalso
          simp only [ldT] at hl
          simp only [deepL] at hd1
          have := ld_pos f x (by omega)
          omega
      subst hr2
      have hlx : ldT f x = ldT f x2 := by simpa [ldT] using hl
      rw [cR_tl hg hb.1.2, cR_tl hg2 hb2.1.2, List.map_append, List.map_append, List.append_assoc, List.append_assoc] at he
      simp only [bareVL, Bool.and_eq_true] at hb hb2
      have hd1' := hd1
      have hd3' := hd3
      simp only [deepL] at hd1 hd3
      obtain ⟨exx, he⟩ := cR_cancel f x x2 (m + 1) n _ _ hg.2.1 hg2.2.1 (by omega) (by omega) hb.2.1 hb2.2.1 hlx he
      subst exx
      obtain ⟨q1, q2, q3, q4, q5⟩ := tl_cancel hg hg2 hd1' hd3' hb.1.2 hb2.1.2 (by first | rfl | (simp only [bareVL, Bool.and_eq_true]; exact hb.2.2)) hb2.2.2 sec he
      exact ⟨by rw [q1, q2, q3, q4], q5⟩
theorem code_unlike {t u : Tr} (hg : t.Good) (hg2 : u.Good) (hd : t.deep ≤ 32) (hd2 : u.deep ≤ 32) (hb : bareV t = true) (hb2 : bareV u = true) : cR 32 t [] 1 = cR 32 u [] 1 ↔ t = u := by
  constructor
  · intro h
    have hl : ldT 32 t = ldT 32 u := by
      obtain ⟨r, hr⟩ := cR_head 32 t [] 1 hg hd
      obtain ⟨q, hq⟩ := cR_head 32 u [] 1 hg2 hd2
      rw [hr, hq] at h
      injection h with h1 _
      unfold insI at h1
      injection h1 with _ h3
      omega
    exact (cR_cancel 32 t u 1 0 [] [] hg hg2 hd hd2 hb hb2 hl (by rw [h])).1
  · rintro rfl; rfl
mutual
theorem bare_of : ∀ (t : Tr) (p : Nat), (∀ d ∈ ndsT t p, ¬ (d.kind = 7 ∨ (31 ≤ d.kind ∧ d.kind ≤ 34))) → bareV t = true
  | .node k s n ks, p, h => by
    have h1 := h ⟨(k : Int), s, n, (placesL ks (p + 1)).map fun n : Nat => (n : Int)⟩ (by simp [ndsT, Tr.flat, EN.nd])
    simp only at h1
    simp only [bareV, Bool.and_eq_true, decide_eq_true_eq]
    refine ⟨⟨by omega, by omega⟩, bareL_of ks (p + 1) (fun d hd => h d ?_)⟩
    simp only [ndsT, Tr.flat, List.map_cons]
    exact List.mem_cons.2 (.inr hd)
theorem bareL_of : ∀ (ts : List Tr) (p : Nat), (∀ d ∈ ndsL ts p, ¬ (d.kind = 7 ∨ (31 ≤ d.kind ∧ d.kind ≤ 34))) → bareVL ts = true
  | [], p, h => rfl
  | t :: ts, p, h => by
    simp only [bareVL, Bool.and_eq_true]
    refine ⟨bare_of t p (fun d hd => h d ?_), bareL_of ts (p + t.size) (fun d hd => h d ?_)⟩
    · simp only [ndsL, flatL, List.map_append]; exact List.mem_append.2 (.inl hd)
    · simp only [ndsL, flatL, List.map_append]; exact List.mem_append.2 (.inr hd)
end
theorem ndsT_node (k : Nat) (s : List Nat) (n : Int) (ks : List Tr) (p : Nat) : ndsT (.node k s n ks) p = ⟨(k : Int), s, n, (placesL ks (p + 1)).map fun n : Nat => (n : Int)⟩ :: ndsL ks (p + 1) := by
  simp [ndsT, ndsL, Tr.flat, EN.nd]
theorem ndsL_cons (t : Tr) (ts : List Tr) (p : Nat) : ndsL (t :: ts) p = ndsT t p ++ ndsL ts (p + t.size) := by
  simp [ndsT, ndsL, flatL]
mutual
theorem nds_cancel : ∀ (t u : Tr) (p : Nat) (X Y : List ND), ndsT t p ++ X = ndsT u p ++ Y → t = u ∧ X = Y
  | .node k s n ks, .node k2 s2 n2 ks2, p, X, Y, h => by
    rw [ndsT_node, ndsT_node, List.cons_append, List.cons_append] at h
    injection h with h1 h2
    injection h1 with h3 h4 h5 h6
    have hl : ks.length = ks2.length := by
      have := congrArg List.length h6
      simpa [places_len] using this
    obtain ⟨h7, h8⟩ := ndsL_cancel ks ks2 (p + 1) X Y hl h2
    have h3' : k = k2 := by omega
    exact ⟨by rw [h3', h4, h5, h7], h8⟩
theorem ndsL_cancel : ∀ (ts us : List Tr) (p : Nat) (X Y : List ND), ts.length = us.length → ndsL ts p ++ X = ndsL us p ++ Y → ts = us ∧ X = Y
  | [], [], p, X, Y, _, h => ⟨rfl, by simpa [ndsL, flatL] using h⟩
  | [], u :: us, p, X, Y, hl, h => by simp at hl
  | t :: ts, [], p, X, Y, hl, h => by simp at hl
  | t :: ts, u :: us, p, X, Y, hl, h => by
    rw [ndsL_cons, ndsL_cons, List.append_assoc, List.append_assoc] at h
    obtain ⟨h1, h2⟩ := nds_cancel t u p _ _ h
    subst h1
    obtain ⟨h3, h4⟩ := ndsL_cancel ts us _ X Y (by simpa using hl) h2
    exact ⟨by rw [h3], h4⟩
end
theorem unlike_nds {t u : Tr} (hg : t.Good) (hg2 : u.Good) (hd : t.deep ≤ 32) (hd2 : u.deep ≤ 32) (hb : bareV t = true) (hb2 : bareV u = true) : decide (cR 32 t [] 1 = cR 32 u [] 1) = decide (ndsT t 0 = ndsT u 0) := by
  rw [decide_eq_decide, code_unlike hg hg2 hd hd2 hb hb2]
  constructor
  · rintro rfl; rfl
  · intro h
    exact (nds_cancel t u 0 [] [] (by rw [h])).1
end Go.Proofs.YtdkoafmgenbkbaaGreatDoor
namespace Go.Proofs.YtdkoafmgenbkbaaGreatDoor
open Go.RowKit
def CodeIs (l : List ND) (c : List Ins) : Prop := (rightE l ≠ 0 → c = []) ∧ (∀ t : Tr, t.Good → t.deep ≤ 32 → t.size ≤ 256 → l = ndsT t 0 → c = cR 32 t [] 1)
theorem CodeIs.bad {l : List ND} (h : rightE l ≠ 0) : CodeIs l [] :=
  ⟨fun _ => rfl, fun t hg hd hs hl => absurd (by rw [hl]; exact (right_of hg hs hd).1) h⟩
theorem CodeIs.tree {t : Tr} (hg : t.Good) (hd : t.deep ≤ 32) (hs : t.size ≤ 256) : CodeIs (ndsT t 0) (cR 32 t [] 1) :=
  ⟨fun h => absurd (right_of hg hs hd).1 h, fun u _ _ _ he => by rw [(nds_cancel t u 0 [] [] (by rw [he])).1]⟩
theorem tree_or {l : List ND} (hok : ∀ d ∈ l, NdOk d) : 256 < l.length ∨ rightE l = 80 ∨ ∃ t : Tr, t.Good ∧ t.size ≤ 256 ∧ l = ndsT t 0 := by
  by_cases h : 256 < l.length
  · exact .inl h
  · right
    cases hm : metN l l.length 0 with
    | none => left; unfold rightE; rw [if_neg h, hm]
    | some r =>
      by_cases hr : r.2 = l.length
      · right
        obtain ⟨t, hg, h1, h2, _⟩ := metN_tree l hok _ _ _ hm
        rw [h1] at hr
        have hs : t.size = l.length := by simpa using hr
        refine ⟨t, hg, by omega, ?_⟩
        unfold Stands at h2
        rw [List.drop_zero, List.take_of_length_le (by omega)] at h2
        exact h2
      · left
        unfold rightE
        rw [if_neg h, hm]
        simp only
        rw [if_pos hr]
theorem names_law {l : List ND} {a b : List Nat} {c1 c2 : List Ins} (hok : ∀ d ∈ l, NdOk d) (hb : Bytes b ∧ b.length ≤ 140737488355328) (hno : ∀ d ∈ l, (d.kind = 7 ∨ (31 ≤ d.kind ∧ d.kind ≤ 34)) → d.text ≠ b) (h1 : CodeIs l c1) (h2 : CodeIs (l.map (rnD a b)) c2) :
    (rightE l ≠ rightE (l.map (rnD a b)) → rightE l = 80 ∨ rightE (l.map (rnD a b)) = 80) ∧ (rightE l = rightE (l.map (rnD a b)) → c1 = c2) := by
  have none_ : rightE l ≠ 0 → rightE l = rightE (l.map (rnD a b)) → c1 = c2 := fun h e => by rw [h1.1 h, h2.1 (by rw [← e]; exact h)]
  rcases tree_or hok with h | h | ⟨t, hg, hs, hl⟩
  · have e1 : rightE l = 4 := by unfold rightE; rw [if_pos h]
    have e2 : rightE (l.map (rnD a b)) = 4 := by unfold rightE; rw [List.length_map, if_pos h]
    exact ⟨fun hne => absurd (by rw [e1, e2]) hne, none_ (by rw [e1]; decide)⟩
  · exact ⟨fun _ => .inl h, none_ (by rw [h]; decide)⟩
  · subst hl
    have hn : noB b t := noB_of b t 0 hno
    have hsz := rn_size a b t
    rw [nds_rn] at h2 none_ ⊢
    have hok2 : ∀ d ∈ ndsT (rnT a b t) 0, NdOk d := by
      intro d hd
      rw [← nds_rn] at hd
      obtain ⟨d0, h0, rfl⟩ := List.mem_map.1 hd
      have h1 := hok d0 h0
      unfold rnD
      split
      · exact ⟨hb.1, hb.2, h1.2.2⟩
      · exact h1
    by_cases hall : ∀ d ∈ ndsT (rnT a b t) 0, mayE d = true
    · have hg2 := good_list (rnT a b t) 0 (fun d hd => ⟨hall d hd, hok2 d hd⟩)
      have e : rightE (ndsT t 0) = rightE (ndsT (rnT a b t) 0) := by rw [right_tr hg, right_tr hg2, hsz.1, hsz.2]
      refine ⟨fun hne => absurd e hne, fun _ => ?_⟩
      by_cases hr : rightE (ndsT t 0) = 0
      · have hd : t.deep ≤ 32 := by
          rw [right_tr hg] at hr
          split at hr
          · cases hr
          · omega
        rw [h1.2 t hg hd hs rfl, h2.2 _ hg2 (by omega) (by omega) rfl]
        exact (cR_rn (a := a) (vs := []) hg hd hn (fun v h => by cases h)).symm
      · exact none_ hr e
    · have h80 : rightE (ndsT (rnT a b t) 0) = 80 := by
        obtain ⟨d, hd1, hd2⟩ : ∃ d, d ∈ ndsT (rnT a b t) 0 ∧ mayE d ≠ true := by
          rcases Classical.em (∃ d, d ∈ ndsT (rnT a b t) 0 ∧ mayE d ≠ true) with h | h
          · exact h
          · exact absurd (fun d hd => Classical.byContradiction fun h2 => h ⟨d, hd, h2⟩) hall
        obtain ⟨i, hi⟩ := List.mem_iff_getElem?.1 hd1
        have hl := (List.getElem?_eq_some_iff.1 hi).1
        refine right_no hok2 hl ?_ (by rw [nds_len]; omega)
        obtain ⟨f, hf⟩ : ∃ f, (ndsT (rnT a b t) 0).length = f + 1 := ⟨(ndsT (rnT a b t) 0).length - 1, by omega⟩
        rw [hf]
        simp only [metN, hi]
        rw [if_neg hd2]
      refine ⟨fun _ => .inr h80, fun e => none_ (by rw [e, h80]; decide) e⟩
end Go.Proofs.YtdkoafmgenbkbaaGreatDoor
namespace Go.Proofs.YtdkoafmgenbkbaaGreatDoor
open Go.RowKit
structure AllV (w : World) : Prop where
  marks : Marks w
  signs : Signs w
  lays : Lays w
theorem AllV.below {w w' : World} (h : AllV w) (hb : Below w.heap.size w w') : AllV w' := by
  have l3 : 3 < w.heap.size := by
    obtain ⟨t, fr, e⟩ := signs_block h.signs
    rcases Nat.lt_or_ge 3 w.heap.size with h | h
    · exact h
    · rw [Array.getElem?_eq_none h] at e; cases e
  exact ⟨h.marks.below hb, h.signs.of_block (hb.block 3 l3), h.lays.below hb⟩
theorem compile_any {l : List ND} {v : Value} (w w0 : World) (hs : SlR w0 w0.heap.size 4 (ND.Is w0 w0.heap.size) v l) (hok : ∀ d ∈ l, NdOk d) (hv : AllV w0) (hw : Below w0.heap.size w0 w) :
    Calls Tryz.prog 12 #[.agg #[v]] w fun e w' => ∃ ov c, e = .returned (.tuple #[.agg #[ov], .int .i64 (rightE l : Int)]) ∧ CodeIs l c ∧ Own1 w' w.heap.size 42 4 Ins.Is ov c ∧ Below w.heap.size w w' := by
  by_cases hr : rightE l = 0
  · obtain ⟨t, tg, td, ts, hl, _⟩ := right_tree hok hr
    subst hl
    refine (compile_ok w w0 hs hok hv.marks hv.lays.vars.1 hw tg td ts).mono ?_
    rintro e w' ⟨ov, rfl, ho, hb⟩
    exact ⟨ov, cR 32 t [] 1, by rw [hr]; rfl, CodeIs.tree tg td ts, ho, hb⟩
  · refine (compile_bad w w0 hs hok hv.marks hv.lays.vars.1 hw hr).mono ?_
    rintro e w' ⟨rfl, hb⟩
    exact ⟨.slice none 0 0, [], rfl, CodeIs.bad hr, Own1.nil_ _ _ _ _ _, hb⟩
theorem text_any (t : Tr) (s : ByteArray) (hs : s.size ≤ maxLen) (hp : parseN (bs s) = (t.flat 0, 0, 0)) (hg : t.Good) (hd : t.deep ≤ 32) (hsz : t.size ≤ 256) (T : List Nat) (hT : printC (cR 32 t [] 1) = (T, 0)) (w : World) (hv : AllV w) :
    Calls Tryz.prog 16 #[.string s] w fun e w' => e = .returned (.string (txt T)) ∧ Below w.heap.size w w' := by
  have HP := zH (parse8_any s hs w hv.marks hv.signs)
  rw [hp] at HP
  obtain ⟨n, hn⟩ : ∃ n, (t.flat 0).length = n := ⟨_, rfl⟩
  have HN := zH hn
  obtain ⟨cl, hcl⟩ : ∃ c, cR 32 t [] 1 = c := ⟨_, rfl⟩
  obtain ⟨cn, hcn⟩ : ∃ c, cl.length = c := ⟨_, rfl⟩
  have HCN := zH hcn
  have CO := zH (fun (W W0 : World) (v : Value) (h : SlR W0 W0.heap.size 4 (ND.Is W0 W0.heap.size) v (ndsT t 0)) (h0 : Below w.heap.size w W0) (hW : Below W0.heap.size W0 W) => compile_ok W W0 h (nds_ok hg 0) (hv.below h0).marks (hv.below h0).lays.vars.1 hW hg hd hsz)
  have PRC := zH (fun (W W0 : World) (v : Value) (h : SlR W0 W0.heap.size 4 Ins.Is v cl) (h0 : Below w.heap.size w W) (hW : Below W0.heap.size W0 W) => print_any W W0 h hW (hv.below h0).lays.words (hv.below h0).lays.vars.1)
  rw [show codeT t = cl from hcl] at CO
  rw [hcl] at hT
  rw [hT] at PRC
  clear hv hp hs hn hg hd hsz hT hcl hcn
  go_enter Tryz.func16, Tryz.ntmps16
  go_wp2_with (first
    | (go_at_call 29; go_must (refine HP.out.mono ?_); rintro e w1 ⟨v1, rfl, h1, b1⟩
       obtain ⟨a1, c1, hv1, _⟩ := h1.form
       subst hv1
       rw [HN.out] at h1 ⊢
       have S1 := zH (h1.map_ EN.nd (fun x y h => ENode.nd h))
       have B1 := zH b1
       have B2 : Hid (Below w1.heap.size w1 (w1.alloc (.cells #[.slice a1 n c1] 37))) := zH (zB.alloc zL _)
       clear h1 b1)
    | (go_at_call 12; go_must (refine (CO.out _ w1 _ S1.out B1.out B2.out).mono ?_); rintro e w3 ⟨ov, rfl, ho, b3⟩
       obtain ⟨ca, cc, rfl⟩ := ho.form
       rw [HCN.out] at ho ⊢
       have S3 := zH (ho.read (by decide))
       have B3 := zH ((B1.out.trans (B2.out.mono B1.out.size)).trans (b3.mono (by have := B1.out.size; have := B2.out.size; omega)))
       have B4 : Hid (Below w3.heap.size w3 (w3.alloc (.cells #[.slice ca cn cc] 24))) := zH (zB.alloc zL _)
       clear ho b3)
    | (go_at_call 8; go_must (refine (PRC.out _ w3 _ S3.out (B3.out.trans (B4.out.mono B3.out.size)) B4.out).mono ?_); rintro e w5 ⟨rfl, b5⟩
       have B5 := zH ((B3.out.trans (B4.out.mono B3.out.size)).trans (b5.mono (by have := B3.out.size; have := B4.out.size; omega)))
       clear b5)
    | fail)
  go_ret
  exact ⟨rfl, B5.out⟩
theorem named_any (k : Int) (s : ByteArray) (n : Int) (a : Option Addr) (kn kc : Nat) (w : World) : Calls Tryz.prog 14 #[.agg #[.int .i64 k, .string s, .int .i64 n, .slice a kn kc]] w fun e w' => e = .returned (.bool (decide (k = 7 ∨ (31 ≤ k ∧ k ≤ 34)))) ∧ Below w.heap.size w w' := by
  have HB : Hid (Below w.heap.size w (w.alloc (.cells #[.int .i64 k, .string s, .int .i64 n, .slice a kn kc] 45))) := zH (zB.alloc zL _)
  obtain ⟨vb, hvd⟩ : ∃ v, decide (k = 7 ∨ (31 ≤ k ∧ k ≤ 34)) = v := ⟨_, rfl⟩
  rw [hvd]
  have hvd := hvd.symm
  by_cases h7 : k = 7
  · have e7 : (k == 7) = true := by rw [h7]; rfl
    have hv : vb = true := by rw [hvd]; simp [h7]
    subst hv
    clear h7 hvd
    go_enter Tryz.func14, Tryz.ntmps14
    go_wp2_with fail
    go_ret
    exact ⟨rfl, HB.out⟩
  · have e7 : (k == 7) = false := by simpa using h7
    by_cases h31 : 31 ≤ k
    · have e31 : decide (k ≥ 31) = true := decide_eq_true h31
      have e31' : decide (31 ≤ k) = true := decide_eq_true h31
      by_cases h34 : k ≤ 34
      · have e34 : decide (k ≤ 34) = true := decide_eq_true h34
        have hv : vb = true := by rw [hvd]; simp; omega
        subst hv
        clear h7 h31 h34 hvd
        go_enter Tryz.func14, Tryz.ntmps14
        go_wp2_with fail
        go_ret
        exact ⟨rfl, HB.out⟩
      · have e34 : decide (k ≤ 34) = false := decide_eq_false h34
        have hv : vb = false := by rw [hvd]; simp; omega
        subst hv
        clear h7 h31 h34 hvd
        go_enter Tryz.func14, Tryz.ntmps14
        go_wp2_with fail
        go_ret
        exact ⟨rfl, HB.out⟩
    · have e31 : decide (k ≥ 31) = false := decide_eq_false h31
      have e31' : decide (31 ≤ k) = false := decide_eq_false h31
      have hv : vb = false := by rw [hvd]; simp; omega
      subst hv
      clear h7 h31 hvd
      go_enter Tryz.func14, Tryz.ntmps14
      go_wp2_with fail
      go_ret
      exact ⟨rfl, HB.out⟩
theorem two_self (w : World) (t : TypeId) : SlR (w.alloc (.cells #[.int .i64 6, .int .i64 0, .int .i64 0, .string ⟨#[]⟩, .int .i64 6, .int .i64 0, .int .i64 0, .string ⟨#[]⟩] t)) (w.alloc (.cells #[.int .i64 6, .int .i64 0, .int .i64 0, .string ⟨#[]⟩, .int .i64 6, .int .i64 0, .int .i64 0, .string ⟨#[]⟩] t)).heap.size 4 Ins.Is (.slice (some ⟨w.heap.size, 0, none⟩) 2 2) [insI 6 0, insI 6 0] := by
  have hok : Ins.ok ⟨6, 0, 0, ⟨#[]⟩⟩ := ⟨by decide, by decide, by decide, by show 0 ≤ maxLen; decide⟩
  refine ⟨some ⟨w.heap.size, 0, none⟩, 2, rfl, by decide, by decide, fun _ => ⟨w.heap.size, 0, rfl, by simp [World.size_alloc], fun i y hy => ?_⟩⟩
  have hb := Blk.new w t #[.int .i64 6, .int .i64 0, .int .i64 0, .string ⟨#[]⟩, .int .i64 6, .int .i64 0, .int .i64 0, .string ⟨#[]⟩]
  match i, hy with
  | 0, hy =>
    injection hy with hy
    subst hy
    refine ⟨Ins.cells ⟨6, 0, 0, ⟨#[]⟩⟩, rfl, ⟨rfl, hok⟩, fun j u hu => ?_⟩
    match j, hu with
    | 0, hu => injection hu with hu; subst hu; exact hb.cell (i := 0) rfl
    | 1, hu => injection hu with hu; subst hu; exact hb.cell (i := 1) rfl
    | 2, hu => injection hu with hu; subst hu; exact hb.cell (i := 2) rfl
    | 3, hu => injection hu with hu; subst hu; exact hb.cell (i := 3) rfl
  | 1, hy =>
    injection hy with hy
    subst hy
    refine ⟨Ins.cells ⟨6, 0, 0, ⟨#[]⟩⟩, rfl, ⟨rfl, hok⟩, fun j u hu => ?_⟩
    match j, hu with
    | 0, hu => injection hu with hu; subst hu; exact hb.cell (i := 4) rfl
    | 1, hu => injection hu with hu; subst hu; exact hb.cell (i := 5) rfl
    | 2, hu => injection hu with hu; subst hu; exact hb.cell (i := 6) rfl
    | 3, hu => injection hu with hu; subst hu; exact hb.cell (i := 7) rfl
theorem awake_any (w : World) (hv : AllV w) : Calls Tryz.prog 7 #[] w fun e w' => e = .returned (.bool true) ∧ Below w.heap.size w w' := by
  have T1 := zH (fun W (hW : Below w.heap.size w W) => text_any aw1 ⟨#[115, 101, 108, 102, 46, 97, 32, 43, 32, 49]⟩ (by decide) (by rw [show bs (⟨#[115, 101, 108, 102, 46, 97, 32, 43, 32, 49]⟩ : ByteArray) = [115, 101, 108, 102, 46, 97, 32, 43, 32, 49] by decide +kernel]; exact aw1_parse) aw1_good aw1_size.2 (by rw [aw1_size.1]; omega) _ aw1_print W (hv.below hW))
  have T2 := zH (fun W (hW : Below w.heap.size w W) => text_any aw2 ⟨#[97, 110, 121, 32, 120, 32, 105, 110, 32, 115, 101, 108, 102, 35, 98, 58, 32, 120, 46, 99, 32, 61, 61, 32, 34, 34, 32, 101, 110, 100]⟩ (by decide) (by rw [show bs (⟨#[97, 110, 121, 32, 120, 32, 105, 110, 32, 115, 101, 108, 102, 35, 98, 58, 32, 120, 46, 99, 32, 61, 61, 32, 34, 34, 32, 101, 110, 100]⟩ : ByteArray) = [97, 110, 121, 32, 120, 32, 105, 110, 32, 115, 101, 108, 102, 35, 98, 58, 32, 120, 46, 99, 32, 61, 61, 32, 34, 34, 32, 101, 110, 100] by decide +kernel]; exact aw2_parse) aw2_good aw2_size.2 (by rw [aw2_size.1]; omega) _ aw2_print W (hv.below hW))
  have R3 := zH (fun (W : World) (v : Value) (h : SlR W W.heap.size 4 Ins.Is v [insI 6 0, insI 6 0]) => right_code W W h zB)
  rw [aw3_right.1] at R3
  have R4 := zH (fun (W : World) => right_code (cl := []) W W ((Own1.nil_ W 0 42 4 Ins.Is).read (by decide)) zB)
  rw [aw3_right.2] at R4
  have P5 := zH (fun (W : World) (hW : Below w.heap.size w W) => parse_any ⟨#[115, 101, 108, 102, 10, 108, 111, 97, 100, 32, 48, 48, 10]⟩ (by decide) W (hv.below hW).lays)
  rw [show bs (⟨#[115, 101, 108, 102, 10, 108, 111, 97, 100, 32, 48, 48, 10]⟩ : ByteArray) = [115, 101, 108, 102, 10, 108, 111, 97, 100, 32, 48, 48, 10] by decide +kernel] at P5
  unfold ParseK at P5
  rw [aw4_parse] at P5
  have eq1 : ((txt [115, 116, 101, 112, 32, 51, 10, 115, 101, 108, 102, 10, 112, 114, 111, 112, 32, 97, 10, 115, 116, 101, 112, 32, 49, 10, 105, 110, 116, 32, 49, 10, 97, 100, 100, 10]).toList == ([115, 116, 101, 112, 32, 51, 10, 115, 101, 108, 102, 10, 112, 114, 111, 112, 32, 97, 10, 115, 116, 101, 112, 32, 49, 10, 105, 110, 116, 32, 49, 10, 97, 100, 100, 10] : List UInt8)) = true := by decide +kernel
  have eq2 : ((txt [115, 116, 101, 112, 32, 51, 10, 115, 101, 108, 102, 10, 107, 105, 100, 115, 32, 98, 10, 97, 110, 121, 10, 110, 101, 120, 116, 32, 49, 50, 10, 115, 116, 101, 112, 32, 51, 10, 108, 111, 97, 100, 32, 48, 10, 112, 114, 111, 112, 32, 99, 10, 115, 116, 101, 112, 32, 49, 10, 116, 101, 120, 116, 32, 34, 34, 10, 101, 113, 10, 116, 97, 107, 101, 32, 52, 10]).toList == ([115, 116, 101, 112, 32, 51, 10, 115, 101, 108, 102, 10, 107, 105, 100, 115, 32, 98, 10, 97, 110, 121, 10, 110, 101, 120, 116, 32, 49, 50, 10, 115, 116, 101, 112, 32, 51, 10, 108, 111, 97, 100, 32, 48, 10, 112, 114, 111, 112, 32, 99, 10, 115, 116, 101, 112, 32, 49, 10, 116, 101, 120, 116, 32, 34, 34, 10, 101, 113, 10, 116, 97, 107, 101, 32, 52, 10] : List UInt8)) = true := by decide +kernel
  have tok1 : True := trivial
  have tok2 : True := trivial
  have tok3 : True := trivial
  have tok4 : True := trivial
  clear hv
  go_enter Tryz.func7, Tryz.ntmps7
  go_wp2_with (first
    | (have _t := tok1; go_at_call 16; go_must (refine (T1.out _ zB).mono ?_); clear tok1 _t
       rintro e w1 ⟨rfl, b1⟩
       have B1 := zH b1
       clear b1)
    | (have _t := tok2; go_at_call 16; go_must (refine (T2.out _ B1.out).mono ?_); clear tok2 _t
       rintro e w2 ⟨rfl, b2⟩
       have B2 := zH (B1.out.trans (b2.mono B1.out.size))
       have S2 := zH (two_self w2 42)
       have B3 := zH (B2.out.alloc B2.out.size (.cells #[.int .i64 6, .int .i64 0, .int .i64 0, .string ⟨#[]⟩, .int .i64 6, .int .i64 0, .int .i64 0, .string ⟨#[]⟩] 42))
       clear b2)
    | (have _t := tok3; go_at_call 9; go_must (refine (R3.out _ _ S2.out).mono ?_); clear tok3 _t
       rintro e w3 ⟨rfl, b3⟩
       have B4 := zH (B3.out.trans (b3.mono B3.out.size))
       clear b3)
    | (have _t := tok4; go_at_call 9; go_must (refine (R4.out _).mono ?_); clear tok4 _t
       rintro e w4 ⟨rfl, b4⟩
       have B5 := zH (B4.out.trans (b4.mono B4.out.size))
       clear b4)
    | (go_at_call 10; go_must (refine (P5.out _ B5.out).mono ?_)
       rintro e w5 ⟨pv, rfl, ho, b5⟩
       obtain ⟨pa, pc, rfl⟩ := ho.form
       have B6 := zH (B5.out.trans (b5.mono B5.out.size))
       clear b5 ho)
    | fail)
  go_ret
  exact ⟨rfl, B6.out.alloc B6.out.size _⟩
end Go.Proofs.YtdkoafmgenbkbaaGreatDoor
namespace Go.Proofs.YtdkoafmgenbkbaaGreatDoor
open Go.RowKit Go.ChangeShapes Go.WideShapes Go.ChangeAt
theorem laidOut : laidOutB Tryz.prog = true := by kernel_rfl
theorem gM : Tryz.prog.globalNamed "topiary/code.words" = some 0 := by kernel_rfl
theorem gMT : (Tryz.prog.globals[0]?).map (·.type) = some 84 := by kernel_rfl
theorem cellsM : Tryz.prog.cellsOf 84 = 41 := by kernel_rfl
theorem cellsS : Tryz.prog.cellsOf 9 = 1 := by kernel_rfl
theorem cells_of_texts {H : Type} {enc : TypeId × Value → H} {P : Program} {w : World} {base : Nat} {sp : Nat → Bool} {held : Bool} {fuel : Nat} {t e : TypeId} {n : Nat} {cs : List Value} {zs : List (List UInt8)} {p : List MemPlace}
    (ht : P.underlying t = some (.array n e)) (he : P.underlying e = some .string) (hce : P.cellsOf e = 1) (hct : P.cellsOf t = n)
    (h : DataW.trod enc P w base sp held fuel t cs = some (.agg (zs.map fun z => .lit (.string z)), p)) : cs = zs.map fun z => Value.string ⟨z.toArray⟩ := by
  cases fuel with
  | zero => simp [DataW.trod] at h
  | succ fuel =>
    simp only [DataW.trod, ht, hce, hct, Nat.mul_one] at h
    split at h
    · rename_i hl
      obtain ⟨xs, hm, hx⟩ := Option.map_eq_some_iff.1 h
      have hxs : xs.map (·.1) = zs.map fun z => (DataW.lit (.string z) : DataW H) := by
        have := congrArg Prod.fst hx
        simpa using this
      have hxl : xs.length = n := by simpa using Lib.mapM_length hm
      have hzl : zs.length = n := by
        have := congrArg List.length hxs
        simp at this
        omega
      apply List.ext_getElem?
      intro i
      by_cases hi : i < n
      · obtain ⟨b, hb, hf⟩ := Lib.mapM_at hm i i (by simp [hi])
        obtain ⟨z, hc, rfl, _⟩ := DataW.trod_string he hf
        have h1 : cs[i]? = some (.string z) := by
          have := congrArg (·[0]?) hc
          simpa [List.getElem?_take, List.getElem?_drop] using this
        have h2 : (xs.map (·.1))[i]? = some (DataW.lit (.string z.data.toList) : DataW H) := by simp [hb]
        rw [hxs] at h2
        simp only [List.getElem?_map, Option.map_eq_some_iff, DataW.lit.injEq, Lit.string.injEq] at h2
        obtain ⟨z', hz', rfl⟩ := h2
        simp [h1, hz']
      · rw [List.getElem?_eq_none (by omega), List.getElem?_eq_none (by simp; omega)]
    · cases h
theorem words_head {W : World} {rest : List (String × DataW Unit)} (h : laidMet Tryz.prog (("topiary/code.words", Rows.laid_topiary_code_words) :: rest) W) : WordsIs W := by
  obtain ⟨ps, ⟨g', t', cs, fuel, p, q, hg', ht', hvar, hd, _, _⟩, _⟩ := h
  obtain rfl := Option.some.inj (gM.symm.trans hg')
  obtain rfl := Option.some.inj (gMT.symm.trans ht')
  have hd' : DataW.trod (fun _ => ()) Tryz.prog W 0 (fun _ => true) false fuel 84 cs.toList = some (.agg ((wordsC.map fun m => m.data.toList).map fun z => .lit (.string z)), p) := hd
  have := cells_of_texts Tryz.underlying84 Tryz.underlying9 cellsS cellsM hd'
  unfold WordsIs
  rw [hvar]
  congr 1
  apply Array.toList_inj.1
  rw [this]
  rfl
theorem gP : Tryz.prog.globalNamed "internal/strconv.uint64pow10" = some 4 := by kernel_rfl
theorem gPT : (Tryz.prog.globals[4]?).map (·.type) = some 168 := by kernel_rfl
theorem cellsP : Tryz.prog.cellsOf 168 = 20 := by kernel_rfl
theorem cellsU : Tryz.prog.cellsOf 151 = 1 := by kernel_rfl
theorem gMk : Tryz.prog.globalNamed "topiary/lex.marks" = some 2 := by kernel_rfl
theorem gMkT : (Tryz.prog.globals[2]?).map (·.type) = some 142 := by kernel_rfl
theorem cellsMk : Tryz.prog.cellsOf 142 = 16 := by kernel_rfl
theorem marks_headC {W : World} {rest : List (String × DataW Unit)} (h : laidMet Tryz.prog (("topiary/lex.marks", Rows.laid_topiary_lex_marks) :: rest) W) : Marks W := by
  obtain ⟨ps, ⟨g', t', cs, fuel, p, q, hg', ht', hvar, hd, _, _⟩, _⟩ := h
  obtain rfl := Option.some.inj (gMk.symm.trans hg')
  obtain rfl := Option.some.inj (gMkT.symm.trans ht')
  have hd' : DataW.trod (fun _ => ()) Tryz.prog W 0 (fun _ => true) false fuel 142 cs.toList = some (.agg ((marksL.map fun m => m.map UInt8.ofNat).map fun z => .lit (.string z)), p) := hd
  have := cells_of_texts Tryz.underlying142 Tryz.underlying9 cellsS cellsMk hd'
  unfold Marks
  rw [hvar]
  congr 1
  apply Array.toList_inj.1
  rw [this]
  rfl
theorem gS : Tryz.prog.globalNamed "topiary/expr.signs" = some 3 := by kernel_rfl
theorem gST : (Tryz.prog.globals[3]?).map (·.type) = some 166 := by kernel_rfl
theorem cellsSA : Tryz.prog.cellsOf 166 = 45 := by kernel_rfl
theorem cellsSG : Tryz.prog.cellsOf 145 = 3 := by kernel_rfl
theorem cellsI : Tryz.prog.cellsOf 3 = 1 := by kernel_rfl
theorem chunks {α β : Type} (f : β → List α) : ∀ (L : List β) (cs : List α), cs.length = L.length * 3 → (∀ i y, L[i]? = some y → (cs.drop (i * 3)).take 3 = f y) → cs = (L.map f).flatten
  | [], cs, hl, _ => by
    have : cs = [] := List.eq_nil_of_length_eq_zero (by simpa using hl)
    subst this
    rfl
  | y :: L, cs, hl, h => by
    have h0 := h 0 y rfl
    rw [Nat.zero_mul, List.drop_zero] at h0
    have ih := chunks f L (cs.drop 3) (by rw [List.length_drop, hl, List.length_cons]; omega) (fun i z hz => by
      have := h (i + 1) z hz
      rw [List.drop_drop]
      rwa [show (i + 1) * 3 = 3 + i * 3 by omega] at this)
    rw [List.map_cons, List.flatten_cons, ← h0, ← ih, List.take_append_drop]
theorem cells_of_sign {H : Type} {enc : TypeId × Value → H} {w : World} {base : Nat} {sp : Nat → Bool} {held : Bool} {fuel : Nat} {cs : List Value} {z : List UInt8} {a b : Int} {p : List MemPlace}
    (h : DataW.trod enc Tryz.prog w base sp held fuel 145 cs = some (.agg [.lit (.string z), .lit (.int .i64 a), .lit (.int .i64 b)], p)) : cs = [.string ⟨z.toArray⟩, .int .i64 a, .int .i64 b] := by
  obtain ⟨y0, y1, y2, n, he, hl, h0, h1, h2⟩ := Go.Deep.trod_struct3 Tryz.underlying145 h
  rw [cellsSG] at hl
  obtain ⟨c0, c1, c2, rfl⟩ : ∃ c0 c1 c2, cs = [c0, c1, c2] := by
    match cs, hl with
    | [c0, c1, c2], _ => exact ⟨c0, c1, c2, rfl⟩
  simp only at h0 h1 h2
  obtain ⟨s0, e0, g0, _⟩ := DataW.trod_string Tryz.underlying9 h0
  obtain ⟨s1, e1, g1, _⟩ := DataW.trod_int Tryz.underlying3 h1
  obtain ⟨s2, e2, g2, _⟩ := DataW.trod_int Tryz.underlying3 h2
  rw [cellsS] at e0
  rw [cellsI] at e1 e2
  simp at e0 e1 e2
  subst e0 e1 e2 g0 g1 g2
  injection he with he _
  injection he with he
  injection he with k0 he
  injection he with k1 he
  injection he with k2 _
  injection k0 with k0
  injection k0 with k0
  injection k1 with k1
  injection k1 with _ k1
  injection k2 with k2
  injection k2 with _ k2
  subst k0 k1 k2
  simp
theorem signs_head {W : World} {rest : List (String × DataW Unit)} (h : laidMet Tryz.prog (("topiary/expr.signs", Rows.laid_topiary_expr_signs) :: rest) W) : Signs W := by
  obtain ⟨ps, ⟨g', t', cs, fuel, p, q, hg', ht', hvar, hd, _, _⟩, _⟩ := h
  obtain rfl := Option.some.inj (gS.symm.trans hg')
  obtain rfl := Option.some.inj (gST.symm.trans ht')
  have hd' : DataW.trod (fun _ => ()) Tryz.prog W 0 (fun _ => true) false fuel 166 cs.toList = some (.agg (signsL.map fun x => .agg [.lit (.string (x.1.map UInt8.ofNat)), .lit (.int .i64 (x.2.1 : Int)), .lit (.int .i64 (x.2.2 : Int))]), p) := hd
  obtain ⟨xs, m, _, hx, hl, hxl, hat⟩ := DataW.trod_array Tryz.underlying166 hd'
  injection hx with hx _
  injection hx with hx
  rw [cellsSA] at hl
  have hc : cs.toList = (signsL.map fun x => [Value.string (txt x.1), .int .i64 (x.2.1 : Int), .int .i64 (x.2.2 : Int)]).flatten := by
    refine chunks _ _ _ (by rw [hl]; rfl) (fun i y hy => ?_)
    have hi : i < 15 := (List.getElem?_eq_some_iff.1 hy).1
    have h1 := hat i hi
    rw [cellsSG] at h1
    have h2 : (xs.map (·.1))[i]? = some (.agg [.lit (.string (y.1.map UInt8.ofNat)), .lit (.int .i64 (y.2.1 : Int)), .lit (.int .i64 (y.2.2 : Int))]) := by rw [← hx, List.getElem?_map, hy]; rfl
    rw [List.getElem?_map] at h2
    obtain ⟨x, hxi, hx1⟩ := Option.map_eq_some_iff.1 h2
    rw [hxi] at h1
    obtain ⟨x1, x2⟩ := x
    simp only at hx1
    subst hx1
    exact cells_of_sign h1
  unfold Signs
  rw [hvar]
  congr 1
  apply Array.toList_inj.1
  rw [hc]
  rfl
theorem gES : Tryz.prog.globalNamed "strconv.ErrSyntax" = some 5 := by kernel_rfl
theorem gEST : (Tryz.prog.globals[5]?).map (·.type) = some 56 := by kernel_rfl
theorem gER : Tryz.prog.globalNamed "strconv.ErrRange" = some 6 := by kernel_rfl
theorem gERT : (Tryz.prog.globals[6]?).map (·.type) = some 56 := by kernel_rfl
theorem cellsE : Tryz.prog.cellsOf 177 = 1 := by kernel_rfl
theorem star : "*" ++ "errors.errorString" = "*errors.errorString" := by decide
theorem rowE (u : TypeId) (h : Tryz.prog.typeName? 3 u = some "*errors.errorString") : u = 175 :=
  typeName_ptr_named (nm := "errors.errorString") (by rw [star]; kernel_rfl) (by kernel_rfl) (by decide) u (by rw [star]; exact h)
theorem varsZ {W : World} (h : laidMetH Tryz.prog Rows.codeNamesRow.laid W) (hsh : W.ShapedOpen Tryz.prog) : AllV W := by
  have h1 : laidMet Tryz.prog Rows.codeNamesRow.laid W := h
  have h2 := h1.tail.tail
  obtain ⟨a1, s1, hv1, -, -, -⟩ := laid_sentinel h2.tail gER gERT Tryz.underlying56 rowE Tryz.underlying175 Tryz.underlying177 rfl rfl Tryz.underlying9 cellsE cellsS
  obtain ⟨a0, s0, hv0, -, -, -⟩ := laid_sentinel h2.tail.tail gES gEST Tryz.underlying56 rowE Tryz.underlying175 Tryz.underlying177 rfl rfl Tryz.underlying9 cellsE cellsS
  have h5 := h2.tail.tail.tail
  exact ⟨marks_headC h5, signs_head h5.tail, words_head h5.tail.tail, ⟨Lib.tabIs_of_head gP gPT Tryz.underlying168 Tryz.underlying151 cellsU cellsP h2, ⟨_, _, hv0⟩, _, _, hv1⟩, cell_of_shapedOpen_int (g := 1) (t := 3) (zero := #[.int .i64 0]) hsh (of_decide_eq_true (by kernel_rfl)) (by kernel_rfl) rfl (by kernel_rfl) (by kernel_rfl) Tryz.underlying3⟩
noncomputable def lowZ : Nat := (World.holding Tryz.prog default ⟨#[], #[], []⟩).heap.size
noncomputable def laidWorldZ (os : Os) : World :=
  let w0 := World.holding Tryz.prog os ⟨#[.cells #[.string ⟨#[105, 110, 118, 97, 108, 105, 100, 32, 115, 121, 110, 116, 97, 120]⟩] 177, .cells #[.string ⟨#[118, 97, 108, 117, 101, 32, 111, 117, 116, 32, 111, 102, 32, 114, 97, 110, 103, 101]⟩] 177], #[], []⟩
  { w0 with heap := (((((((w0.heap.modify 0 fun
      | .cells _ t frozen => .cells wordsV t frozen
      | o => o).modify 2 fun
      | .cells _ t frozen => .cells marksV t frozen
      | o => o).modify 3 fun
      | .cells _ t frozen => .cells signsV t frozen
      | o => o).modify 5 fun
      | .cells _ t frozen => .cells #[.iface 175 (.pointer (some ⟨lowZ, 0, none⟩))] t frozen
      | o => o).modify 6 fun
      | .cells _ t frozen => .cells #[.iface 175 (.pointer (some ⟨lowZ + 1, 0, none⟩))] t frozen
      | o => o).modify 4 fun
      | .cells _ t frozen => .cells #[.int .u64 1, .int .u64 10, .int .u64 100, .int .u64 1000, .int .u64 10000, .int .u64 100000, .int .u64 1000000, .int .u64 10000000, .int .u64 100000000, .int .u64 1000000000, .int .u64 10000000000, .int .u64 100000000000, .int .u64 1000000000000, .int .u64 10000000000000, .int .u64 100000000000000, .int .u64 1000000000000000, .int .u64 10000000000000000, .int .u64 100000000000000000, .int .u64 1000000000000000000, .int .u64 10000000000000000000] t frozen
      | o => o).modify 7 fun
      | .cells _ t frozen => .cells #[.int .u8 0, .int .u8 1, .int .u8 28, .int .u8 2, .int .u8 29, .int .u8 14, .int .u8 24, .int .u8 3, .int .u8 30, .int .u8 22, .int .u8 20, .int .u8 15, .int .u8 25, .int .u8 17, .int .u8 4, .int .u8 8, .int .u8 31, .int .u8 27, .int .u8 13, .int .u8 23, .int .u8 21, .int .u8 19, .int .u8 16, .int .u8 7, .int .u8 26, .int .u8 12, .int .u8 18, .int .u8 6, .int .u8 11, .int .u8 5, .int .u8 10, .int .u8 9] t frozen
      | o => o).modify 8 fun
      | .cells _ t frozen => .cells #[.int .u8 0, .int .u8 1, .int .u8 56, .int .u8 2, .int .u8 57, .int .u8 49, .int .u8 28, .int .u8 3, .int .u8 61, .int .u8 58, .int .u8 42, .int .u8 50, .int .u8 38, .int .u8 29, .int .u8 17, .int .u8 4, .int .u8 62, .int .u8 47, .int .u8 59, .int .u8 36, .int .u8 45, .int .u8 43, .int .u8 51, .int .u8 22, .int .u8 53, .int .u8 39, .int .u8 33, .int .u8 30, .int .u8 24, .int .u8 18, .int .u8 12, .int .u8 5, .int .u8 63, .int .u8 55, .int .u8 48, .int .u8 27, .int .u8 60, .int .u8 41, .int .u8 37, .int .u8 16, .int .u8 46, .int .u8 35, .int .u8 44, .int .u8 21, .int .u8 52, .int .u8 32, .int .u8 23, .int .u8 11, .int .u8 54, .int .u8 26, .int .u8 40, .int .u8 15, .int .u8 34, .int .u8 20, .int .u8 31, .int .u8 10, .int .u8 25, .int .u8 14, .int .u8 19, .int .u8 9, .int .u8 13, .int .u8 8, .int .u8 7, .int .u8 6] t frozen
      | o => o }
theorem laid_metZ (os : Os) (args : Array Value) : laidMet Tryz.prog Rows.codeNamesRow.laid ((laidWorldZ os).forCall (fun _ _ => 0) ⟨#[], args, []⟩).memory :=
  laidMet_of_run' 8 (by kernel_rfl) (by kernel_rfl)
end Go.Proofs.YtdkoafmgenbkbaaGreatDoor
namespace Go.Proofs.YtdkoafmgenbkbaaGreatDoor
open Go.RowKit
theorem neq_Ins (y z : Ins) (b : Bool) (h : decide (y = z) = !b) (W : World) : (binOp .neq 42 (.agg #[.int .i64 y.op, .int .i64 y.arg, .int .i64 y.int, .string y.text]) (.agg #[.int .i64 z.op, .int .i64 z.arg, .int .i64 z.int, .string z.text])).run Tryz.prog W = .ok (.bool b) W := by
  obtain ⟨y0, y1, y2, y3⟩ := y
  obtain ⟨z0, z1, z2, z3⟩ := z
  go_simp
  simp only [toList_inj]
  cases b <;> simp at h
  all_goals first
    | (simp [h]; done)
    | (repeat' split
       all_goals simp_all)
theorem rsame_any {l m : List Ins} {v v' : Value} (w w0 : World) (hs : SlR w0 w0.heap.size 4 Ins.Is v l) (ht : SlR w0 w0.heap.size 4 Ins.Is v' m) (hw : Below w0.heap.size w0 w) :
    Calls Tryz.prog 11 #[.agg #[v], .agg #[v']] w fun e w' => e = .returned (.bool (decide (l = m))) ∧ Below w.heap.size w w' := by
  obtain ⟨a, c, rfl⟩ : ∃ a c, v = .slice a l.length c := by obtain ⟨a, c, h, _⟩ := hs.form; exact ⟨a, c, h⟩
  obtain ⟨a', c', rfl⟩ : ∃ a c, v' = .slice a m.length c := by obtain ⟨a, c, h, _⟩ := ht.form; exact ⟨a, c, h⟩
  have hn : l.length ≤ 9223372036854775807 := by have := hs.caps; unfold maxLen at this; omega
  rw [← eqBy_eq]
  by_cases hl : l.length = m.length
  · obtain ⟨n, hlen⟩ : ∃ n, l.length = n := ⟨_, rfl⟩
    rw [← hl] at ht ⊢
    rw [hlen] at hs ht hn ⊢
    have Hlen := zH hlen
    have Hl := zH hl
    have Hs := zH hs
    have Ht := zH ht
    have Hw := zH hw
    clear hs ht hlen hw hl
    have hne0 : ((n : Int) != (n : Int)) = false := by simp
    go_enter Tryz.func11, Tryz.ntmps11
    go_wp2_with fail
    generalize hW2 : World.alloc (World.alloc w _) _ = W2
    have L2 : Hid (Below w.heap.size w W2) := zH (by rw [← hW2]; exact (zB.alloc zL _).alloc (by simp) _)
    have B0 : Hid (Blk W2 w.heap.size 24 #[.slice a n c]) := zH (by rw [← hW2]; exact (Blk.new w _ _).alloc _)
    have B1 : Hid (Blk W2 (w.heap.size + 1) 24 #[.slice a' n c']) := zH (by rw [← hW2]; exact Blk.new_ (by simp) _ _)
    clear hW2
    go_loopw [5] (fun j wr => ∃ k : Nat, k ≤ n ∧ j = .int .i64 k ∧ Hid (Below W2.heap.size W2 wr) ∧ Hid (∀ i y z, i < k → l[i]? = some y → m[i]? = some z → (fun a b => decide (a = b)) y z = true)) (fun j _ => n - (intOf j).toNat)
    case atStart => exact ⟨0, Nat.zero_le _, rfl, zH zB, zH (fun i d _ hi => by omega)⟩
    case round =>
      obtain ⟨k, hk, rfl, hq, hf⟩ := hrel
      have c0 : wr.cell? ⟨w.heap.size, 0, none⟩ = some (.slice a n c) := (B0.out.below hq.out B0.out.lt).cell rfl
      have c1 : wr.cell? ⟨w.heap.size + 1, 0, none⟩ = some (.slice a' n c') := (B1.out.below hq.out B1.out.lt).cell rfl
      have hb := L2.out.trans (hq.out.mono L2.out.size)
      have HB := zH hb
      by_cases hlt : k < n
      · obtain ⟨y, hd⟩ := get_some Hlen.out hlt
        obtain ⟨z, he⟩ := get_some (Hl.out.symm.trans Hlen.out) hlt
        have hw1 := Hw.out.trans (hb.mono Hw.out.size)
        obtain ⟨b, off, x, rfl, hbB, hxl, ⟨rfl, _⟩, hx⟩ := (Hs.out.below hw1).at_ hd
        obtain ⟨b', off', x', rfl, hbB', hxl', ⟨rfl, _⟩, hx'⟩ := (Ht.out.below hw1).at_ he
        have h0 := hx 0 _ rfl
        have h1 := hx 1 _ rfl
        have h2 := hx 2 _ rfl
        have h3 := hx 3 _ rfl
        have g0 := hx' 0 _ rfl
        have g1 := hx' 1 _ rfl
        have g2 := hx' 2 _ rfl
        have g3 := hx' 3 _ rfl
        simp only [Nat.add_zero] at h0 g0
        have Hd := zH hd
        have He := zH he
        clear hd he hx hxl hx' hxl' hw1 hb
        by_cases hyz : y = z
        · have hne := fun W => neq_Ins y z false (by simpa using hyz) W
          have Hyz := zH hyz
          clear hyz
          go_wp2_with fail
          go_quiet (fail)
          go_wp2_with fail
          go_roundw
          case rel => exact ⟨k + 1, by omega, by go_num, zH (below_drewN hq.out _), zH (so_far Hd.out He.out (by simpa using Hyz.out) hf.out)⟩
          case measure => simp [intOf]; omega
        · have hne := fun W => neq_Ins y z true (by simpa using hyz) W
          have Hyz := zH hyz
          clear hyz
          go_wp2_with fail
          go_quiet (fail)
          go_wp2_with fail
          go_ret
          exact ⟨by rw [eqBy_no _ l m k y z Hd.out He.out (by simpa using Hyz.out)]; rfl, below_drewN HB.out _⟩
      · have hge : n ≤ k := by omega
        clear hlt hb
        go_wp2_with fail
        go_ret
        exact ⟨by rw [eqBy_yes _ l m Hl.out (fun i y z hi => hf.out i y z (by have := Hlen.out; omega))]; rfl, HB.out⟩
  · have hne : ((l.length : Int) != (m.length : Int)) = true := by rw [bne_iff_ne]; omega
    have Hl := zH hl
    clear hl hs ht hw
    go_enter Tryz.func11, Tryz.ntmps11
    go_wp2_with fail
    go_ret
    exact ⟨by rw [eqBy_len _ l m Hl.out]; rfl, (zB.alloc zL _).alloc (by simp) _⟩
end Go.Proofs.YtdkoafmgenbkbaaGreatDoor
