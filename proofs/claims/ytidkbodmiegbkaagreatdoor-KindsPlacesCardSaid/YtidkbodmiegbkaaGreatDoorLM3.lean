/- Taken over out of another chapter (its text ECatch): what is needed here. Taken over out of another chapter (its text EFlat): what is needed here. Taken over out of another chapter (its text EMark): what is needed here. Taken over out of another chapter (its text EOneW): what is needed here. Taken over out of another chapter (its text EWd): what is needed here. Taken over out of another chapter (its text EPrim): what is needed here. Taken over out of another chapter (its text EKnot): what is needed here. Taken over out of another chapter (its text EGood): what is needed here. Taken over out of another chapter (its text EParse): what is needed here. Taken over out of another chapter (its text ERd0): what is needed here. Taken over out of another chapter (its text ENd): what is needed here. -/
import Derived.Test.YtidkbodmiegbkaaGreatDoorProg
import Derived.Test.YtidkbodmiegbkaaGreatDoorShelf
import Derived.Test.YtidkbodmiegbkaaGreatDoorLM1
import Derived.Test.YtidkbodmiegbkaaGreatDoorLM2
import Derived.Below
import Derived.BigQuiet
import Derived.BigRegion
import Derived.Deep.AppendLies
import Derived.Deep.Draws
import Derived.Deep.Fields
import Derived.Deep.LoopGhost
import Derived.Deep.QuietTactic
import Derived.Deep.RegionHeld2
import Derived.Deep.RegionHeld3
import Derived.Deep.RegionLaw
import Derived.Deep.Slices
import Derived.Defers
import Derived.Laws.BytesString
import Derived.Laws.IdiomStrings
import Derived.Laws.Pointers
import Derived.Laws.Rows
import Derived.Lib.AppendStr
import Derived.Lib.Builder
import Derived.Lib.FrozenHead
import Derived.Lib.Hide
import Derived.Lib.ItoaNum
import Derived.Lib.ParseIntB
import Derived.Maps.AppendAt
import Derived.Outline
import Derived.OwnWalk
import Derived.ProofKit
import Derived.Recover
import Derived.RegionTactic
import Derived.StillTailTactics
import Derived.Tactics
import Derived.Tactics2
import Derived.WalkKit
import Derived.WalkMore
import Derived.WalkSmall
import Derived.WalkSpells
namespace Go.Proofs.YtidkbodmiegbkaaGreatDoor
set_option linter.unusedSimpArgs false
set_option linter.unusedVariables false
open Go.RowKit
/-- the three boxes of the answer -/
structure Bx (w : World) (B : Nat) (v : Value) (at_ err : Int) : Prop where
  e : Blk w B 24 #[v]
  at_ : Blk w (B + 1) 3 #[.int .i64 at_]
  err : Blk w (B + 2) 26 #[.int .i64 err]
theorem Bx.below {w w' : World} {B : Nat} {v : Value} {a e : Int} (h : Bx w B v a e) {C : Nat} (hb : Below C w w') (hC : B + 2 < C) : Bx w' B v a e :=
  ⟨h.e.below hb (by omega), h.at_.below hb (by omega), h.err.below hb hC⟩
theorem Bx.new (w : World) : Bx (((w.alloc (.cells #[.slice none 0 0] 24)).alloc (.cells #[.int .i64 0] 3)).alloc (.cells #[.int .i64 0] 26)) w.heap.size (.slice none 0 0) 0 0 :=
  ⟨((Blk.new _ _ _).alloc _).alloc _, (Blk.new_ (by simp) _ _).alloc _, Blk.new_ (by simp) _ _⟩
theorem Bx.cells {w : World} {B : Nat} {v : Value} {a e : Int} (h : Bx w B v a e) : w.cell? ⟨B, 0, none⟩ = some v ∧ w.cell? ⟨B + 1, 0, none⟩ = some (.int .i64 a) ∧ w.cell? ⟨B + 2, 0, none⟩ = some (.int .i64 e) ∧ w.frozen? ⟨B, 0, none⟩ = false ∧ w.frozen? ⟨B + 1, 0, none⟩ = false ∧ w.frozen? ⟨B + 2, 0, none⟩ = false ∧ B + 2 < w.heap.size :=
  ⟨h.e.cell rfl, h.at_.cell rfl, h.err.cell rfl, h.e.frozen 0, h.at_.frozen 0, h.err.frozen 0, h.err.lt⟩
/-- all three stored anew -/
theorem Bx.set {w : World} {B : Nat} {v : Value} {a e : Int} (h : Bx w B v a e) (v' : Value) (a' e' : Int) : Bx (((w.setCell ⟨B, 0, none⟩ v').setCell ⟨B + 1, 0, none⟩ (.int .i64 a')).setCell ⟨B + 2, 0, none⟩ (.int .i64 e')) B v' a' e' ∧ Below B w (((w.setCell ⟨B, 0, none⟩ v').setCell ⟨B + 1, 0, none⟩ (.int .i64 a')).setCell ⟨B + 2, 0, none⟩ (.int .i64 e')) :=
  ⟨⟨by have := ((h.e.set_ 0 v').far (p := ⟨B + 1, 0, none⟩) (by show B ≠ B + 1; omega) (.int .i64 a')).far (p := ⟨B + 2, 0, none⟩) (by show B ≠ B + 2; omega) (.int .i64 e'); simpa using this,
    by have := ((h.at_.far (p := ⟨B, 0, none⟩) (by show B + 1 ≠ B; omega) v').set_ 0 (.int .i64 a')).far (p := ⟨B + 2, 0, none⟩) (by show B + 1 ≠ B + 2; omega) (.int .i64 e'); simpa using this,
    by have := ((h.err.far (p := ⟨B, 0, none⟩) (by show B + 2 ≠ B; omega) v').far (p := ⟨B + 1, 0, none⟩) (by show B + 2 ≠ B + 1; omega) (.int .i64 a')).set_ 0 (.int .i64 e'); simpa using this⟩,
   (((Below.refl B w).setCell (p := ⟨B, 0, none⟩) (Nat.le_refl B) _).setCell (p := ⟨B + 1, 0, none⟩) (Nat.le_succ B) _).setCell (p := ⟨B + 2, 0, none⟩) (by show B ≤ B + 2; omega) _⟩
/-- two of them stored anew -/
theorem Bx.set2 {w : World} {B : Nat} {v : Value} {a e : Int} (h : Bx w B v a e) (a' e' : Int) : Bx ((w.setCell ⟨B + 1, 0, none⟩ (.int .i64 a')).setCell ⟨B + 2, 0, none⟩ (.int .i64 e')) B v a' e' ∧ Below B w ((w.setCell ⟨B + 1, 0, none⟩ (.int .i64 a')).setCell ⟨B + 2, 0, none⟩ (.int .i64 e')) :=
  ⟨⟨by have := (h.e.far (p := ⟨B + 1, 0, none⟩) (by show B ≠ B + 1; omega) (.int .i64 a')).far (p := ⟨B + 2, 0, none⟩) (by show B ≠ B + 2; omega) (.int .i64 e'); simpa using this,
    by have := (h.at_.set_ 0 (.int .i64 a')).far (p := ⟨B + 2, 0, none⟩) (by show B + 1 ≠ B + 2; omega) (.int .i64 e'); simpa using this,
    by have := (h.err.far (p := ⟨B + 1, 0, none⟩) (by show B + 2 ≠ B + 1; omega) (.int .i64 a')).set_ 0 (.int .i64 e'); simpa using this⟩,
   ((Below.refl B w).setCell (p := ⟨B + 1, 0, none⟩) (Nat.le_succ B) _).setCell (p := ⟨B + 2, 0, none⟩) (by show B ≤ B + 2; omega) _⟩
set_option maxRecDepth 100000 in
set_option maxHeartbeats 4000000 in
theorem catch_wrong (B : Nat) (k a0 e0 : Int) (older : List PanicEntry) (w : World) (v : Value) (hv : ∃ a n c, v = .slice a n c) (hb : Bx w B v a0 e0) :
    CallsD Tryz.prog 32 #[.pointer (some ⟨B, 0, none⟩), .pointer (some ⟨B + 1, 0, none⟩), .pointer (some ⟨B + 2, 0, none⟩)] (.panicking ({ v := .iface 69 (.agg #[.int .i64 k]), recovered := false } :: older)) w fun e u' w' =>
      e = .returned (.tuple #[]) ∧ u' = .panicking ({ v := .iface 69 (.agg #[.int .i64 k]), recovered := true } :: older) ∧ Below B w w' ∧ Bx w' B (.slice none 0 0) k 80 := by
  obtain ⟨q0, q1, q2, f0, f1, f2, lg⟩ := hb.cells
  have l0 : B < w.heap.size := by omega
  have l1 : B + 1 < w.heap.size := by omega
  have Hb := Lib.hid hb
  clear hb
  have has : ∀ (v : Value) (W : World), (Instr.typeAssert (.iface 69 v) 20 69 true).run Tryz.prog W = .ok (.tuple #[v, .bool true]) W := by intros; kernel_rfl
  refine callsD_of_wpS Tryz.func32 rfl fun c₀ cs hu => ?_
  simp only [Tryz.ntmps32, List.size_toArray, List.length_cons, List.length_nil, Nat.reduceAdd, Nat.reduceSub, Array.replicate_succ, Array.replicate_zero, List.push_toArray, List.append_toArray, List.nil_append, List.cons_append]
  apply wpS_seq
  apply wpS_region
  simp [wpOpsS, go_sem, recoverD, hu, Exit.thenS]
  refine wpS_of_wp ?_
  obtain ⟨va, vn, vc, rfl⟩ := hv
  go_wp2_with fail
  go_region
  all_goals
    have HK := Hb.out.set (.slice none 0 0) k 80
    have h1 : Below B w ((((w.setCell ⟨B, 0, none⟩ (.slice none 0 0)).setCell ⟨B + 1, 0, none⟩ (.int .i64 k)).setCell ⟨B + 2, 0, none⟩ (.int .i64 80)).alloc (.cells #[.int .i64 k] 69)).drew := (HK.2.alloc (Nat.le_of_lt (Nat.lt_of_lt_of_le l0 HK.2.size)) _).drew
    have h2 : Bx ((((w.setCell ⟨B, 0, none⟩ (.slice none 0 0)).setCell ⟨B + 1, 0, none⟩ (.int .i64 k)).setCell ⟨B + 2, 0, none⟩ (.int .i64 80)).alloc (.cells #[.int .i64 k] 69)).drew B (.slice none 0 0) k 80 := HK.1.below ((Below.refl _ _).alloc (Nat.le_refl _) _).drew HK.1.err.lt
    have h3 := And.intro h1 h2
    clear h1 h2 HK
    generalize World.drew _ = wz at h3 ⊢
    clear q0 q1 q2 f0 f1 f2 lg l0 l1 Hb has
    obtain ⟨k1, k2, k3, k4, k5, k6, k7⟩ := c₀
    simp (config := { zetaDelta := true }) [bodyPostS, results, Tryz.results32]
    exact h3
theorem catch_idle (a b c : Value) (w : World) :
    CallsD Tryz.prog 32 #[a, b, c] .returning w fun e u' w' => e = .returned (.tuple #[]) ∧ u' = .returning ∧ w' = w := by
  refine callsD_of_wpS Tryz.func32 rfl fun c₀ cs hu => ?_
  simp only [Tryz.ntmps32, List.size_toArray, List.length_cons, List.length_nil, Nat.reduceAdd, Nat.reduceSub, Array.replicate_succ, Array.replicate_zero, List.push_toArray, List.append_toArray, List.nil_append, List.cons_append]
  apply wpS_seq
  apply wpS_region
  simp [wpOpsS, go_sem, recoverD, hu, Exit.thenS]
  refine wpS_of_wp ?_
  go_wp2_with fail
  cases c₀
  simp_all [bodyPostS, results, Tryz.results32]
end Go.Proofs.YtidkbodmiegbkaaGreatDoor
namespace Go.Proofs.YtidkbodmiegbkaaGreatDoor
set_option linter.unusedSimpArgs false
set_option linter.unusedVariables false
open Go.RowKit
theorem info_enode : (Tryz.prog.info? 40).map (fun i => (i.zero, i.size, i.bytes)) = some (some (.agg #[.int .i64 0, .string .empty, .int .i64 0, .slice none 0 0]), 4, 56) := by kernel_rfl
theorem info_int : (Tryz.prog.info? 3).map (fun i => (i.zero, i.size, i.bytes)) = some (some (.int .i64 0), 1, 8) := by kernel_rfl
theorem IsEN.one : ∀ x y, IsEN x y → ∀ u ∈ x, u.oneCell' = true := by
  intro x y h u hu
  obtain ⟨rfl, a, n, c, h2⟩ := h
  rw [h2] at hu
  simp at hu
  rcases hu with rfl | rfl | rfl | rfl <;> rfl
theorem IsNat.one : ∀ x y, IsNat x y → ∀ u ∈ x, u.oneCell' = true := by
  intro x y h u hu
  unfold IsNat at h
  subst h
  simp at hu
  subst hu
  rfl
/-- what it comes to -/
def FlatIs (B : Nat) (X : World) (t : Tr) (es : List (EN × Value)) (e : Ending) (w' : World) : Prop :=
  ∃ (v' : Value) (es' : List (EN × Value)), e = .returned (.tuple #[v', .int .i64 (t.deep : Int)]) ∧ EL w' B v' (es ++ es') ∧ es'.map (·.1) = t.flat es.length ∧ Below B X w'
set_option maxRecDepth 100000 in
set_option maxHeartbeats 8000000 in
theorem p_flat (lo : Nat) (W0 : World) : ∀ (N : Nat) (t : Tr) (g : Nat) (X : World) (v : Value) (es : List (EN × Value)), t.size ≤ N → TreeAt W0 lo t g → Below W0.heap.size W0 X → EL X W0.heap.size v es → es.length + t.size ≤ 5000 →
    Calls Tryz.prog 35 #[.pointer (some ⟨g, 0, none⟩), v] X (FlatIs W0.heap.size X t es) := by
  intro N
  induction N with
  | zero => intro t g X v es h; have := size_pos t; omega
  | succ N ih =>
  intro t g X v es hN ht hX hE hsz
  obtain ⟨kd, s, nm, ks⟩ := t
  simp only [TreeAt, TreeIn] at ht
  obtain ⟨_, kv, gs, hbox, hrow, _, htr⟩ := ht
  have hszk : sizeL ks ≤ N := by simp only [Tr.size] at hN; omega
  simp only [Tr.size] at hsz
  obtain ⟨a, c, rfl⟩ := hE.main.form
  obtain ⟨p, hp⟩ : ∃ p, es.length = p := ⟨_, rfl⟩
  obtain ⟨ka, kc, rfl⟩ := hrow.form
  obtain ⟨m, hm⟩ : ∃ m, gs.length = m := ⟨_, rfl⟩
  have hmk : ks.length = m := by rw [← hm]; exact (TreesIn.len htr).symm
  have b0 : Blk X g 107 _ := hbox.below hX hbox.lt
  have c0 : X.cell? ⟨g, 0, none⟩ = some (.int .i64 (kd : Int)) := b0.cell rfl
  have c1 : X.cell? ⟨g, 1, none⟩ = some (.string (txt s)) := b0.cell rfl
  have c2 : X.cell? ⟨g, 2, none⟩ = some (.int .i64 nm) := b0.cell rfl
  have c3 : X.cell? ⟨g, 3, none⟩ = some (.slice none 0 0) := b0.cell rfl
  have lg : g < W0.heap.size := hbox.lt
  have HBX := Lib.hid hbox
  have HIH := Lib.hid ih
  have HX := Lib.hid hX
  have HEM : Hid (EL X W0.heap.size (.slice a p c) es) := Lib.hid (by rw [← hp]; exact hE)
  have HE := Lib.hid hE
  have HROW := Lib.hid (hrow.read (by omega))
  have HTR := Lib.hid htr
  have Hp := Lib.hid hp
  have Hm := Lib.hid hm
  have Hmk := Lib.hid hmk
  rw [hp] at hsz ⊢
  rw [hm] at HROW HBX
  have m63 : m ≤ 9223372036854775807 := by have := HROW.out.caps; unfold maxLen at this; omega
  have p5 : (p : Int) ≤ 5000 := by omega
  obtain ⟨jE, hi, hz, hs2, hby⟩ := info_parts info_enode
  have IE := Lib.hid (And.intro hi (And.intro hz (And.intro hs2 hby)))
  clear hi hz hs2 hby
  obtain ⟨jI, hi, hz, hs2, hby⟩ := info_parts info_int
  have II := Lib.hid (And.intro hi (And.intro hz (And.intro hs2 hby)))
  clear hi hz hs2 hby ih hX hE hrow htr hp hm hmk hbox b0 hN
  go_enter Tryz.func35, Tryz.ntmps35
  go_wp2_with (first
    | (at_builtin; refine wpList_append_list rfl (.tmp 14) (.tmp 19) _ rfl W0.heap.size (X.heap.size + 1) 40 jE _ 4 56 Tryz.underlying22 IE.out.1 IE.out.2.1 IE.out.2.2.1 IE.out.2.2.2 rfl (by omega) (R := IsEN) (l := es) (m := [(⟨kd, s, nm, []⟩, .slice none 0 0)]) (.slice a p c) ?_ (by exact HEM.out.main.alloc (.cells #[.int .i64 (kd : Int), .string (txt s), .int .i64 nm, .slice none 0 0] 40)) (some ⟨X.heap.size, 0, none⟩) 1 1 ?_ (by exact SlR.new1 (x := [.int .i64 (kd : Int), .string (txt s), .int .i64 nm, .slice none 0 0]) rfl rfl ⟨rfl, _, _, _, rfl⟩) (p + 1) (by rw [Hp.out]) IsEN.one (by rw [Hp.out]; unfold maxLen; omega) (by rw [Hp.out]; omega) (by have := HX.out.size; rw [World.size_alloc]; omega) ?_; rfl; rfl; intro oa oc w2 hown hgr; have O2 := Lib.hid (And.intro hown hgr); have B2 : Below W0.heap.size X w2 := ((Below.refl W0.heap.size X).alloc HX.out.size _).grown hgr (by have := HX.out.size; rw [World.size_alloc]; omega) (fun g' hg' => (HEM.out.main.block g' hg').1); have c4 : w2.cell? ⟨g, 4, none⟩ = some (.slice ka m kc) := (HBX.out.below (HX.out.trans B2) lg).cell rfl; have HB2 := Lib.hid B2; clear B2 hown hgr))
  have E2 : Hid (EL w2 W0.heap.size (.slice oa (p + 1) oc) (es ++ [(⟨kd, s, nm, []⟩, .slice none 0 0)])) := Lib.hid ((HEM.out.alloc (.cells #[.int .i64 (kd : Int), .string (txt s), .int .i64 nm, .slice none 0 0] 40)).push rfl (by have := O2.out.1; exact this) (by have := O2.out.2; exact this))
  clear c0 c1 c2 c3 c4 O2
  go_loopw [1, 7, 9, 10, 11, 26] (fun v d _ _ _ i wr => ∃ (j : Nat) (a' : Option Addr) (n' c' : Nat) (kv : Value) (es2 : List (EN × Value)), j ≤ m ∧ i = .int .i64 (j : Int) ∧ v = .slice a' n' c' ∧ d = .int .i64 (deepL (ks.take j) : Int) ∧ Hid (n' = p + 1 + sizeL (ks.take j)) ∧ Hid (EL wr W0.heap.size (.slice a' n' c') (es ++ (⟨kd, s, nm, placesL (ks.take j) (p + 1)⟩, kv) :: es2)) ∧ Hid (es2.map (·.1) = flatL (ks.take j) (p + 1)) ∧ Hid (Below W0.heap.size X wr)) (fun _ _ _ _ _ i _ => m - (intOf i).toNat)
  case atStart => exact ⟨0, oa, p + 1, oc, .slice none 0 0, [], Nat.zero_le _, rfl, rfl, rfl, Lib.hid (by simp [sizeL]), E2, Lib.hid (by simp [flatL]), HB2⟩
  case round =>
    obtain ⟨j, a', n', c', kv, es2, hj, rfl, rfl, rfl, hn', hEL, hes2, hB⟩ := hrel
    have HN := hn'
    have HEL := hEL
    have HES := hes2
    have HB := hB
    clear hn' hEL hes2 hB E2 HB2
    by_cases hlt : j < m
    · obtain ⟨gk, hgk⟩ := get_some Hm.out hlt
      obtain ⟨tk, htk⟩ := get_some Hmk.out hlt
      have hLp := get_mid es es2 (⟨kd, s, nm, placesL (ks.take j) (p + 1)⟩, kv) p Hp.out
      obtain ⟨gm, rfl, hgm, hgml, hfz, hat⟩ := HEL.out.main.at00 (by simp; omega) (by omega)
      obtain ⟨x0, hx0, ⟨rfl, ak, nk, ck, hkv⟩, hc0⟩ := hat p _ hLp
      simp only at hkv
      subst hkv
      have u3 : wr.cell? ⟨gm, p * 4 + 3, none⟩ = some (.slice ak nk ck) := hc0 3 _ rfl
      have hnk : nk = (placesL (ks.take j) (p + 1)).length := by
        obtain ⟨a9, c9, h9⟩ := (HEL.out.kids p _ hLp).form
        injection h9
      have hszj := sizeL_take_le ks j
      have hpl : (placesL (ks.take j) (p + 1)).length ≤ 5000 := by rw [placesL_len]; have := len_le_size (ks.take j); omega
      have hn5 : n' ≤ 5000 := by have := HN.out; omega
      have hpn : (p : Int) < (n' : Int) := by have := HN.out; omega
      have hpn2 : p < n' := by have := HN.out; omega
      have p0 : (0 : Int) ≤ (p : Int) := Int.natCast_nonneg _
      obtain ⟨b1, off1, x1, rfl, hb1, hx1, rfl, hc1⟩ := (HROW.out.below (HX.out.trans (HB.out.mono (Nat.le_refl _)))).at_ hgk
      have k0 := hc1 0 _ rfl
      simp only [Nat.add_zero, Nat.mul_one] at k0
      have HLp := Lib.hid hLp
      have Hnk := Lib.hid hnk
      have Hpl := Lib.hid hpl
      have Htk := Lib.hid htk
      have Hgk := Lib.hid hgk
      have Hfz := Lib.hid hfz
      have Hgml := Lib.hid hgml
      clear hx0 hc0 hat hx1 hc1 hLp hnk hpl htk hgk hfz hgm
      go_wp2_with (first
        | (at_builtin; refine wpList_append_list2 rfl (.tmp 36) (.tmp 39) _ rfl W0.heap.size (wr.heap.size + 1) 3 jI _ 1 8 Tryz.underlying33 II.out.1 II.out.2.1 II.out.2.2.1 II.out.2.2.2 rfl (by omega) (R := IsNat) (l := placesL (ks.take j) (p + 1)) (m := [n']) (.slice ak nk ck) ?_ (by exact (HEL.out.kids p _ HLp.out).alloc (.cells #[.int .i64 (n' : Int)] 3)) (some ⟨wr.heap.size, 0, none⟩) 1 1 ?_ (by exact SlR.new1 (x := [.int .i64 (n' : Int)]) rfl rfl rfl) (nk + 1) (by rw [Hnk.out]) IsNat.one (by have := Hpl.out; unfold maxLen; omega) (by have := Hpl.out; omega) (by have := HX.out.size; have := HB.out.size; rw [World.size_alloc]; omega) ?_; rfl; rfl; intro ak2 ck2 w3 hown hgr hat3; have O3 := Lib.hid (And.intro hown (And.intro hgr hat3)); have m3 := ((HEL.out.alloc (.cells #[.int .i64 (n' : Int)] 3)).main.kept1 ((HEL.out.alloc (.cells #[.int .i64 (n' : Int)] 3)).kids p _ HLp.out) (by decide) hgr); obtain ⟨gm2, e2, _, _, hfz3, hat4⟩ := m3.at00 (by simp; omega) (by omega); injection e2 with e2; injection e2 with e2; subst e2; obtain ⟨x5, hx5, ⟨rfl, _⟩, hc5⟩ := hat4 p _ HLp.out; have u5 : w3.cell? ⟨gm, p * 4 + 3, none⟩ = some (.slice ak nk ck) := hc5 3 _ rfl; have z5 := hfz3 (p * 4 + 3); clear hown hgr hat3 hfz3 hat4 hx5 hc5))
      have E3 := HEL.out.kid HLp.out ⟨_, _, _, rfl⟩ (.cells #[.int .i64 (n' : Int)] 3) O3.out.1 O3.out.2.1 (by have := O3.out.2.2; rw [World.size_alloc] at this; exact this)
      rw [set_mid es es2 _ _ p Hp.out] at E3
      have B3 : Below W0.heap.size X (w3.setCell ⟨gm, p * 4 + 3, none⟩ (.slice ak2 (nk + 1) ck2)) := (((HB.out.alloc (Nat.le_trans HX.out.size HB.out.size) (.cells #[.int .i64 (n' : Int)] 3)).grown O3.out.2.1 (by have := HX.out.size; have := HB.out.size; rw [World.size_alloc]; omega) (fun g' hg' => ((HEL.out.kids p _ HLp.out).block g' hg').1))).setCell (p := ⟨gm, p * 4 + 3, none⟩) ((HEL.out.main.block gm rfl).1) _
      have hes2 : es2.length = sizeL (ks.take j) := by have := congrArg List.length HES.out; rw [List.length_map, trFlatL_len] at this; exact this
      have htk1 := take_snoc1 Htk.out
      have hszt := sizeL_take_le ks (j + 1)
      rw [htk1, sizeL_app] at hszt
      simp only [sizeL] at hszt
      have HE3 := Lib.hid E3
      have HB3 := Lib.hid B3
      have HT1 := Lib.hid htk1
      have Hes2 := Lib.hid hes2
      have CC := HIH.out tk gk _ (.slice (some ⟨gm, 0, none⟩) n' c') _ (Nat.le_trans (size_mem (List.mem_iff_getElem?.2 ⟨j, Htk.out⟩)) hszk) (TreesIn.get HTR.out Htk.out Hgk.out) (HX.out.trans B3) E3 (by rw [List.length_append, Hp.out, List.length_cons, hes2]; omega)
      have HCC := Lib.hid CC
      clear E3 B3 htk1 hes2 CC
      refine HCC.out.mono ?_
      rintro e w4 ⟨v4, es4, rfl, hE4, hm4, hB4⟩
      obtain ⟨a4, c4, rfl⟩ := hE4.main.form
      have HE4 := Lib.hid hE4
      have HM4 := Lib.hid hm4
      have HB4 := Lib.hid (HB3.out.trans hB4)
      obtain ⟨n4, hn4⟩ : ∃ z, (es ++ (⟨kd, s, nm, placesL (ks.take j) (p + 1) ++ [n']⟩, Value.slice ak2 (nk + 1) ck2) :: es2 ++ es4).length = z := ⟨_, rfl⟩
      rw [hn4]
      have HN4 := Lib.hid hn4
      clear hE4 hm4 hB4 HCC hn4 u3 u5 z5 k0
      go_wp2_with fail
      go_roundw
      case rel =>
        have hn1 : n' = p + 1 + sizeL (ks.take j) := HN.out
        have hpl1 : placesL (ks.take (j + 1)) (p + 1) = placesL (ks.take j) (p + 1) ++ [n'] := by rw [HT1.out, placesL_app, hn1]; rfl
        have hlen4 : es4.length = tk.size := by have := congrArg List.length HM4.out; rw [List.length_map, trFlat_len] at this; exact this
        refine ⟨j + 1, a4, n4, c4, .slice ak2 (nk + 1) ck2, es2 ++ es4, by omega, by go_num, rfl, ?_, Lib.hid ?_, Lib.hid ?_, Lib.hid ?_, HB4⟩
        · rw [HT1.out, deepL_app]
          simp only [deepL]
          congr 1
          first | (split <;> omega) | omega
        · rw [← HN4.out, HT1.out, sizeL_app]
          simp only [List.length_append, List.length_cons, sizeL, Hp.out, Hes2.out, hlen4]
          omega
        · rw [hpl1]
          have := HE4.out
          rw [HN4.out] at this
          rw [List.append_assoc, List.cons_append] at this
          exact this
        · rw [List.map_append, HES.out, HM4.out, HT1.out, flatL_app]
          simp only [List.length_append, List.length_cons, Hp.out, Hes2.out, flatL, List.append_nil]
          congr 2
          omega
      case measure => simp [intOf]; omega
    · have hjm : j = m := by omega
      subst hjm
      clear hlt
      have hsz2 := hsz
      have hdd : deepL (ks.take j) ≤ 5000 := by have := deepL_le (ks.take j); have := sizeL_take_le ks j; omega
      have hd63 : (deepL (ks.take j) : Int) ≤ 5000 := by omega
      have hd0 : (0 : Int) ≤ (deepL (ks.take j) : Int) := Int.natCast_nonneg _
      have htk : ks.take j = ks := List.take_of_length_le (by rw [Hmk.out]; exact Nat.le_refl _)
      have HTK := Lib.hid htk
      clear htk hdd
      go_wp2_with fail
      go_ret2
      refine ⟨.slice a' n' c', (⟨kd, s, nm, placesL (ks.take j) (p + 1)⟩, kv) :: es2, ?_, HEL.out, ?_, HB.out⟩
      · show Ending.returned (.tuple #[.slice a' n' c', .int .i64 ((deepL (ks.take j) : Int) + 1)]) = _
        rw [HTK.out]
        rfl
      · rw [List.map_cons, HES.out, HTK.out, Hp.out]
        rfl
end Go.Proofs.YtidkbodmiegbkaaGreatDoor
namespace Go.Proofs.YtidkbodmiegbkaaGreatDoor
set_option linter.unusedSimpArgs false
set_option linter.unusedVariables false
open Go.RowKit
section
variable {q : Nat} {a : Option Addr} {c sz : Nat} {l : List Tok} {i : Nat} {W : World}
/-- what begins with a mark, in the grammar's words -/
def markR (l : List Tok) (f i : Nat) (s : List Nat) : PR :=
  if s = minusT then (match l[i + 1]? with
    | some x => if x.kind = 1 then .ok (.node 1 [] (-x.num) []) (i + 2) else .no (i + 1)
    | none => .no (i + 1))
  else if s = openT then (pL l f 1 (i + 1)).bind fun k j => want l j closeT (.ok k (j + 1))
  else .no i
theorem isT_at {t : Tok} (ht : l[i]? = some t) (s : List Nat) : isT l i s = (decide (4 ≤ t.kind) && decide (t.text = s)) := by unfold isT; rw [ht]
set_option maxRecDepth 100000 in
set_option maxHeartbeats 8000000 in
theorem p_mark {t : Tok} (ht : l[i]? = some t) (hk : t.kind = 5) (f : Nat) (HO : LevelC q a c sz l 33 (fun i => pL l f 1 i)) (h : PSt q a c sz l i W) (hr : markR l f i t.text ≠ .out) :
    Calls Tryz.prog 109 #[.pointer (some ⟨q, 0, none⟩)] W (Reads q a c sz l W (markR l f i t.text)) := by
  have H := Lib.hid h
  have QL := Lib.hid h.box.lt
  have hlt := (List.getElem?_eq_some_iff.1 ht).1
  have hfew := h.few
  have hb : isT l i minusT = decide (t.text = minusT) := by rw [isT_at ht, hk]; rfl
  have hb2 : isT l i openT = decide (t.text = openT) := by rw [isT_at ht, hk]; rfl
  have hnx : (txt minusT) = ⟨#[45]⟩ := by decide
  have hno : (txt openT) = ⟨#[40]⟩ := by decide
  have hnc : (txt closeT) = ⟨#[41]⟩ := by decide
  obtain ⟨tt, htt⟩ : ∃ k, t.text = k := ⟨_, rfl⟩
  rw [htt] at hr hb hb2 ⊢
  unfold markR at hr ⊢
  by_cases hm : tt = minusT
  · rw [if_pos hm] at hr ⊢
    rw [decide_eq_true hm] at hb
    have HX := Lib.hid (p_next minusT (show ∀ n ∈ minusT, n < 256 by decide) true hb h)
    rw [hnx] at HX
    have ST := Lib.hid (fun n => h.step (j := i + 1) (u := .int .i64 ((i : Int) + 1)) (by go_num) hlt n)
    obtain ⟨f0, f1, f2, f3, f4⟩ := h.facts
    have i5 : (i : Int) ≤ 5000 := by omega
    have i0 : (0 : Int) ≤ (i : Int) := Int.natCast_nonneg _
    have i00 : (0 : Int) ≤ (i : Int) + 1 := by omega
    obtain ⟨n, hn⟩ : ∃ n, l.length = n := ⟨_, rfl⟩
    have Hn := Lib.hid hn
    rw [hn] at f0 hlt hfew
    have n63 : n ≤ 9223372036854775807 := by omega
    by_cases hx : i + 1 < n
    · obtain ⟨x, hx1⟩ := get_some hn hx
      rw [hx1] at hr ⊢
      simp only at hr ⊢
      have HT := Lib.hid hx1
      have hg := h.good x (List.mem_iff_getElem?.2 ⟨_, hx1⟩)
      by_cases hk1 : x.kind = 1
      · rw [if_pos hk1] at hr ⊢
        have hnum : 0 ≤ x.num := by unfold TokG at hg; omega
        obtain ⟨xv, hxv⟩ : ∃ k, x.num = k := ⟨_, rfl⟩
        have HV := Lib.hid hxv
        rw [hxv] at hnum ⊢
        have dlt : ((i : Int) + 1 == (n : Int)) = false := by simp; omega
        have dlt2 : (i : Int) + 1 < (n : Int) := by omega
        have HK := Lib.hid hk1
        clear h ht hk hfew hb hb2 hnx hno hnc htt hm hn hx1 hg hr hk1 hxv
        go_enter Tryz.func109, Tryz.ntmps109
        go_wp2_with (first
          | (go_at_call 88; (with_reducible refine HX.out.mono ?_); rintro e w1 ⟨rfl, nq, rfl⟩))
        have hS1 := ST.out nq
        generalize hwq : World.setCell _ _ _ = W1
        rw [hwq] at hS1
        clear hwq f0 f1 f2 f3 f4
        have M1 := Lib.hid hS1.1
        have P1 := Lib.hid hS1.2
        obtain ⟨g0, g1, g2, g3, g4⟩ := hS1.2.facts
        rw [Hn.out] at g0
        have g1' : W1.cell? ⟨q, 1, none⟩ = some (.int .i64 ((i : Int) + 1)) := g1
        clear g1 hS1
        obtain ⟨b1, o1, e1, t0, t1, t2, _, hok⟩ := P1.out.tok HT.out
        subst e1
        rw [HK.out] at t0
        rw [HV.out] at t2
        have hxr := hok.2.2.2.1
        rw [HV.out] at hxr
        clear hok t1
        go_quiet (fail)
        go_wp2_with fail
        generalize hwq2 : World.setCell _ _ _ = W2
        have hS2 : Mv q W1 W2 ∧ PSt q (some ⟨b1, o1, none⟩) c sz l (i + 2) W2 := by rw [← hwq2]; exact P1.out.step (j := i + 2) (by go_num) (by rw [Hn.out]; omega) _
        clear hwq2 g0 g2 g3 g4 g1' t0 t2
        have M2 := Lib.hid hS2.1
        have P2 := Lib.hid hS2.2
        obtain ⟨v0, v1, v2, v3, v4⟩ := hS2.2.facts
        rw [Hn.out] at v0
        have v1' : W2.cell? ⟨q, 1, none⟩ = some (.int .i64 ((i : Int) + 2)) := v1
        obtain ⟨b2, o2, e2, _, _, t2, _, _⟩ := hS2.2.tok HT.out
        injection e2 with e2
        injection e2 with e2 e3
        subst e2 e3
        rw [HV.out] at t2
        have ws : IntKind.i64.wrap ((i : Int) + 2 - 1) = (i : Int) + 1 := by rw [IntKind.wrap_i64]; omega
        have hx63 : xv ≤ 9223372036854775807 := by
          have h2 := hxr
          unfold Lit.wf at h2
          rw [Bool.and_eq_true] at h2
          have h3 := of_decide_eq_true h2.2
          have h4 : IntKind.max .i64 = 9223372036854775807 := by decide
          omega
        have wn : IntKind.i64.wrap (-xv) = -xv := by rw [IntKind.wrap_i64]; omega
        clear v1 v2 v3 v4 hS2 hxr
        go_still_tail 15, (by kernel_rfl)
        change wpList _ _ _ _ _ W2.drew
        go_wp2_with fail
        go_ret
        have hbN := ((Below.refl W2.heap.size W2).alloc (Nat.le_refl _) (.cells #[.int .i64 1, .string ⟨#[]⟩, .int .i64 (-xv), .slice none 0 0, .slice none 0 0] 107)).drew
        exact Reads.mk_ (node0 (k := 1) (s := []) (Nat.le_trans M1.out.low.size M2.out.low.size) (Blk.new W2 107 #[.int .i64 1, .string ⟨#[]⟩, .int .i64 (-xv), .slice none 0 0, .slice none 0 0])) ((M1.out.trans M2.out).trans (Mv.of_below hbN (Nat.le_of_lt P2.out.box.lt))) (P2.out.keep hbN)
      · rw [if_neg hk1] at hr ⊢
        have dlt : ((i : Int) + 1 == (n : Int)) = false := by simp; omega
        have dlt2 : (i : Int) + 1 < (n : Int) := by omega
        obtain ⟨kd, hkd⟩ : ∃ k, x.kind = k := ⟨_, rfl⟩
        have HK := Lib.hid hkd
        rw [hkd] at hk1
        have d1 : (kd != 1) = true := by simpa using hk1
        clear h ht hk hfew hb hb2 hnx hno hnc htt hm hn hx1 hg hr hk1 hkd
        go_enter Tryz.func109, Tryz.ntmps109
        go_wp2_with (first
          | (go_at_call 88; (with_reducible refine HX.out.mono ?_); rintro e w1 ⟨rfl, nq, rfl⟩))
        have hS1 := ST.out nq
        generalize hwq : World.setCell _ _ _ = W1
        rw [hwq] at hS1
        clear hwq f0 f1 f2 f3 f4
        have M1 := Lib.hid hS1.1
        have P1 := Lib.hid hS1.2
        obtain ⟨g0, g1, g2, g3, g4⟩ := hS1.2.facts
        rw [Hn.out] at g0
        have g1' : W1.cell? ⟨q, 1, none⟩ = some (.int .i64 ((i : Int) + 1)) := g1
        clear g1 hS1
        obtain ⟨b1, o1, e1, t0, t1, t2, _, hok⟩ := P1.out.tok HT.out
        subst e1
        rw [HK.out] at t0
        clear hok t1 t2
        go_quiet (fail)
        go_wp2_with (first
          | (go_at_call 34; (refine (p_give (P1.out.quiet ⟨_, rfl⟩)).mono ?_); rintro e w2 ⟨rfl, q2⟩; have Q2 := Lib.hid q2; clear q2))
        exact ⟨rfl, rfl, M1.out.trans ((Mv.quiet ⟨_, rfl⟩).trans (Mv.quiet Q2.out))⟩
    · have hnone : l[i + 1]? = none := List.getElem?_eq_none (by omega)
      rw [hnone] at hr ⊢
      simp only at hr ⊢
      obtain rfl : n = i + 1 := by omega
      have dlt : ((i : Int) + 1 == ((i + 1 : Nat) : Int)) = true := by simp
      clear h ht hk hfew hb hb2 hnx hno hnc htt hm hn hr hnone hx
      go_enter Tryz.func109, Tryz.ntmps109
      go_wp2_with (first
        | (go_at_call 88; (with_reducible refine HX.out.mono ?_); rintro e w1 ⟨rfl, nq, rfl⟩))
      have hS1 := ST.out nq
      generalize hwq : World.setCell _ _ _ = W1
      rw [hwq] at hS1
      clear hwq f0 f1 f2 f3 f4
      have M1 := Lib.hid hS1.1
      have P1 := Lib.hid hS1.2
      obtain ⟨g0, g1, g2, g3, g4⟩ := hS1.2.facts
      rw [Hn.out] at g0
      have g1' : W1.cell? ⟨q, 1, none⟩ = some (.int .i64 ((i : Int) + 1)) := g1
      clear g1 hS1
      go_quiet (fail)
      go_wp2_with (first
        | (go_at_call 34; (refine (p_give (P1.out.quiet ⟨_, rfl⟩)).mono ?_); rintro e w2 ⟨rfl, q2⟩; have Q2 := Lib.hid q2; clear q2))
      exact ⟨rfl, rfl, M1.out.trans ((Mv.quiet ⟨_, rfl⟩).trans (Mv.quiet Q2.out))⟩
  · rw [if_neg hm] at hr ⊢
    rw [decide_eq_false hm] at hb
    have HX := Lib.hid (p_next minusT (show ∀ n ∈ minusT, n < 256 by decide) false hb h)
    rw [hnx] at HX
    by_cases ho : tt = openT
    · rw [if_pos ho] at hr ⊢
      rw [decide_eq_true ho] at hb2
      have HA : Hid (∀ X, Quiet W X → Calls Tryz.prog 111 #[.pointer (some ⟨q, 0, none⟩), .string ⟨#[40]⟩] X fun e w' => e = .returned (.tuple #[]) ∧ Mv q X w' ∧ PSt q a c sz l (i + 1) w') := Lib.hid (fun X hX => by rw [← hno]; exact p_want_yes openT (show ∀ n ∈ openT, n < 256 by decide) hb2 (h.quiet hX))
      obtain ⟨r, hrr⟩ : ∃ r, pL l f 1 (i + 1) = r := ⟨_, rfl⟩
      have hne : r ≠ .out := fun e => hr (by rw [hrr, e]; rfl)
      have HC1 : Hid (∀ X, PSt q a c sz l (i + 1) X → Calls Tryz.prog 33 #[.pointer (some ⟨q, 0, none⟩)] X (Reads q a c sz l X r)) := Lib.hid (fun X hX => by rw [← hrr]; exact HO (i + 1) X hX (by show pL l f 1 (i + 1) ≠ .out; rw [hrr]; exact hne))
      rw [hrr]
      have tokA : True := trivial
      cases r with
      | out => exact absurd rfl hne
      | no j =>
        clear HO h ht hk hfew hb hb2 hnx hno hnc htt hm ho hr hlt hrr hne
        go_enter Tryz.func109, Tryz.ntmps109
        go_wp2_with (first
          | (go_at_call 88; (with_reducible refine HX.out.mono ?_); rintro e w1 ⟨rfl, nq, rfl⟩; have Q1 : Hid (Quiet W (W.drewN nq)) := Lib.hid ⟨nq, rfl⟩)
          | (go_at_call 111; have _t := tokA; refine (HA.out _ Q1.out).mono ?_; rintro e w2 ⟨rfl, h2, h3⟩; have M2 := Lib.hid h2; have P2 := Lib.hid h3; clear h2 h3 tokA _t)
          | (go_at_call 33; refine (HC1.out _ P2.out).mono ?_; rintro e w3 ⟨rfl, h2⟩; have M3 := Lib.hid h2; clear h2))
        exact ⟨rfl, rfl, (Mv.quiet Q1.out).trans (M2.out.trans M3.out)⟩
      | ok k j =>
        show Calls _ _ _ _ (Reads q a c sz l W (want l j closeT (.ok k (j + 1))))
        unfold want
        obtain ⟨b, hb3⟩ : ∃ b, isT l j closeT = b := ⟨_, rfl⟩
        cases b with
        | true =>
          rw [hb3, if_pos rfl]
          have HB : Hid (∀ X, PSt q a c sz l j X → Calls Tryz.prog 111 #[.pointer (some ⟨q, 0, none⟩), .string ⟨#[41]⟩] X fun e w' => e = .returned (.tuple #[]) ∧ Mv q X w' ∧ PSt q a c sz l (j + 1) w') := Lib.hid (fun X hX => by rw [← hnc]; exact p_want_yes closeT (show ∀ n ∈ closeT, n < 256 by decide) hb3 hX)
          clear HO h ht hk hfew hb hb2 hnx hno hnc htt hm ho hr hlt hrr hne hb3
          go_enter Tryz.func109, Tryz.ntmps109
          go_wp2_with (first
            | (go_at_call 88; (with_reducible refine HX.out.mono ?_); rintro e w1 ⟨rfl, nq, rfl⟩; have Q1 : Hid (Quiet W (W.drewN nq)) := Lib.hid ⟨nq, rfl⟩)
            | (go_at_call 111; have _t := tokA; refine (HA.out _ Q1.out).mono ?_; rintro e w2 ⟨rfl, h2, h3⟩; have M2 := Lib.hid h2; have P2 := Lib.hid h3; clear h2 h3 tokA _t)
            | (go_at_call 33; refine (HC1.out _ P2.out).mono ?_; rintro e w3 h2; obtain ⟨g, rfl, h3, h4, h5⟩ := h2.get; have T3 := Lib.hid h3; have M3 := Lib.hid h4; have P3 := Lib.hid h5; clear h2 h3 h4 h5)
            | (go_at_call 111; refine (HB.out _ P3.out).mono ?_; rintro e w4 ⟨rfl, h2, h3⟩; have M4 := Lib.hid h2; have P4 := Lib.hid h3; clear h2 h3))
          go_ret
          have q2 : q < w2.heap.size := P2.out.box.lt
          exact Reads.back ((Mv.quiet Q1.out).trans M2.out) (Reads.mk_ (T3.out.high (High.of_mv M4.out q2)) (M3.out.trans M4.out) P4.out)
        | false =>
          rw [hb3, if_neg (by simp)]
          have HB : Hid (∀ X, PSt q a c sz l j X → Calls Tryz.prog 111 #[.pointer (some ⟨q, 0, none⟩), .string ⟨#[41]⟩] X fun e w' => e = .panicked (thrownE (placeAt l sz j)) ∧ Quiet X w') := Lib.hid (fun X hX => by rw [← hnc]; exact p_want_no closeT (show ∀ n ∈ closeT, n < 256 by decide) hb3 hX)
          clear HO h ht hk hfew hb hb2 hnx hno hnc htt hm ho hr hlt hrr hne hb3
          go_enter Tryz.func109, Tryz.ntmps109
          go_wp2_with (first
            | (go_at_call 88; (with_reducible refine HX.out.mono ?_); rintro e w1 ⟨rfl, nq, rfl⟩; have Q1 : Hid (Quiet W (W.drewN nq)) := Lib.hid ⟨nq, rfl⟩)
            | (go_at_call 111; have _t := tokA; refine (HA.out _ Q1.out).mono ?_; rintro e w2 ⟨rfl, h2, h3⟩; have M2 := Lib.hid h2; have P2 := Lib.hid h3; clear h2 h3 tokA _t)
            | (go_at_call 33; refine (HC1.out _ P2.out).mono ?_; rintro e w3 h2; obtain ⟨g, rfl, h3, h4, h5⟩ := h2.get; have T3 := Lib.hid h3; have M3 := Lib.hid h4; have P3 := Lib.hid h5; clear h2 h3 h4 h5)
            | (go_at_call 111; refine (HB.out _ P3.out).mono ?_; rintro e w4 ⟨rfl, h2⟩; have M4 := Lib.hid h2; clear h2))
          exact ⟨rfl, rfl, (Mv.quiet Q1.out).trans (M2.out.trans (M3.out.trans (Mv.quiet M4.out)))⟩
    · rw [if_neg ho] at hr ⊢
      rw [decide_eq_false ho] at hb2
      have HA : Hid (∀ X, Quiet W X → Calls Tryz.prog 111 #[.pointer (some ⟨q, 0, none⟩), .string ⟨#[40]⟩] X fun e w' => e = .panicked (thrownE (placeAt l sz i)) ∧ Quiet X w') := Lib.hid (fun X hX => by rw [← hno]; exact p_want_no openT (show ∀ n ∈ openT, n < 256 by decide) hb2 (h.quiet hX))
      clear HO h ht hk hfew hb hb2 hnx hno hnc htt hm ho hr hlt
      go_enter Tryz.func109, Tryz.ntmps109
      go_wp2_with (first
        | (go_at_call 88; (with_reducible refine HX.out.mono ?_); rintro e w1 ⟨rfl, nq, rfl⟩; have Q1 : Hid (Quiet W (W.drewN nq)) := Lib.hid ⟨nq, rfl⟩)
        | (go_at_call 111; refine (HA.out _ Q1.out).mono ?_; rintro e w2 ⟨rfl, h2⟩; have M2 := Lib.hid h2; clear h2))
      exact ⟨rfl, rfl, (Mv.quiet Q1.out).trans (Mv.quiet M2.out)⟩
end
end Go.Proofs.YtidkbodmiegbkaaGreatDoor
namespace Go.Proofs.YtidkbodmiegbkaaGreatDoor
set_option linter.unusedSimpArgs false
set_option linter.unusedVariables false
open Go.RowKit
theorem p_one_and (W : World) : Calls Tryz.prog 112 #[.string ⟨#[97, 110, 100]⟩] W fun e w' => e = .returned (.tuple #[.int .i64 0, .int .i64 0]) ∧ w' = W := by
  go_enter Tryz.func112, Tryz.ntmps112
  go_wp2_with fail
  go_ret2
  exact ⟨rfl, rfl⟩
theorem p_one_any (W : World) : Calls Tryz.prog 112 #[.string ⟨#[97, 110, 121]⟩] W fun e w' => e = .returned (.tuple #[.int .i64 31, .int .i64 2]) ∧ w' = W := by
  go_enter Tryz.func112, Tryz.ntmps112
  go_wp2_with fail
  go_ret2
  exact ⟨rfl, rfl⟩
theorem p_one_concept (W : World) : Calls Tryz.prog 112 #[.string ⟨#[99, 111, 110, 99, 101, 112, 116]⟩] W fun e w' => e = .returned (.tuple #[.int .i64 17, .int .i64 1]) ∧ w' = W := by
  go_enter Tryz.func112, Tryz.ntmps112
  go_wp2_with fail
  go_ret2
  exact ⟨rfl, rfl⟩
theorem p_one_else (W : World) : Calls Tryz.prog 112 #[.string ⟨#[101, 108, 115, 101]⟩] W fun e w' => e = .returned (.tuple #[.int .i64 0, .int .i64 0]) ∧ w' = W := by
  go_enter Tryz.func112, Tryz.ntmps112
  go_wp2_with fail
  go_ret2
  exact ⟨rfl, rfl⟩
theorem p_one_end (W : World) : Calls Tryz.prog 112 #[.string ⟨#[101, 110, 100]⟩] W fun e w' => e = .returned (.tuple #[.int .i64 0, .int .i64 0]) ∧ w' = W := by
  go_enter Tryz.func112, Tryz.ntmps112
  go_wp2_with fail
  go_ret2
  exact ⟨rfl, rfl⟩
theorem p_one_every (W : World) : Calls Tryz.prog 112 #[.string ⟨#[101, 118, 101, 114, 121]⟩] W fun e w' => e = .returned (.tuple #[.int .i64 32, .int .i64 2]) ∧ w' = W := by
  go_enter Tryz.func112, Tryz.ntmps112
  go_wp2_with fail
  go_ret2
  exact ⟨rfl, rfl⟩
theorem p_one_false (W : World) : Calls Tryz.prog 112 #[.string ⟨#[102, 97, 108, 115, 101]⟩] W fun e w' => e = .returned (.tuple #[.int .i64 4, .int .i64 0]) ∧ w' = W := by
  go_enter Tryz.func112, Tryz.ntmps112
  go_wp2_with fail
  go_ret2
  exact ⟨rfl, rfl⟩
theorem p_one_first (W : World) : Calls Tryz.prog 112 #[.string ⟨#[102, 105, 114, 115, 116]⟩] W fun e w' => e = .returned (.tuple #[.int .i64 15, .int .i64 1]) ∧ w' = W := by
  go_enter Tryz.func112, Tryz.ntmps112
  go_wp2_with fail
  go_ret2
  exact ⟨rfl, rfl⟩
theorem p_one_id (W : World) : Calls Tryz.prog 112 #[.string ⟨#[105, 100]⟩] W fun e w' => e = .returned (.tuple #[.int .i64 18, .int .i64 1]) ∧ w' = W := by
  go_enter Tryz.func112, Tryz.ntmps112
  go_wp2_with fail
  go_ret2
  exact ⟨rfl, rfl⟩
theorem p_one_if (W : World) : Calls Tryz.prog 112 #[.string ⟨#[105, 102]⟩] W fun e w' => e = .returned (.tuple #[.int .i64 30, .int .i64 3]) ∧ w' = W := by
  go_enter Tryz.func112, Tryz.ntmps112
  go_wp2_with fail
  go_ret2
  exact ⟨rfl, rfl⟩
theorem p_one_in (W : World) : Calls Tryz.prog 112 #[.string ⟨#[105, 110]⟩] W fun e w' => e = .returned (.tuple #[.int .i64 0, .int .i64 0]) ∧ w' = W := by
  go_enter Tryz.func112, Tryz.ntmps112
  go_wp2_with fail
  go_ret2
  exact ⟨rfl, rfl⟩
theorem p_one_int (W : World) : Calls Tryz.prog 112 #[.string ⟨#[105, 110, 116]⟩] W fun e w' => e = .returned (.tuple #[.int .i64 19, .int .i64 1]) ∧ w' = W := by
  go_enter Tryz.func112, Tryz.ntmps112
  go_wp2_with fail
  go_ret2
  exact ⟨rfl, rfl⟩
theorem p_one_none (W : World) : Calls Tryz.prog 112 #[.string ⟨#[110, 111, 110, 101]⟩] W fun e w' => e = .returned (.tuple #[.int .i64 6, .int .i64 0]) ∧ w' = W := by
  go_enter Tryz.func112, Tryz.ntmps112
  go_wp2_with fail
  go_ret2
  exact ⟨rfl, rfl⟩
theorem p_one_not (W : World) : Calls Tryz.prog 112 #[.string ⟨#[110, 111, 116]⟩] W fun e w' => e = .returned (.tuple #[.int .i64 0, .int .i64 0]) ∧ w' = W := by
  go_enter Tryz.func112, Tryz.ntmps112
  go_wp2_with fail
  go_ret2
  exact ⟨rfl, rfl⟩
theorem p_one_only (W : World) : Calls Tryz.prog 112 #[.string ⟨#[111, 110, 108, 121]⟩] W fun e w' => e = .returned (.tuple #[.int .i64 33, .int .i64 2]) ∧ w' = W := by
  go_enter Tryz.func112, Tryz.ntmps112
  go_wp2_with fail
  go_ret2
  exact ⟨rfl, rfl⟩
theorem p_one_or (W : World) : Calls Tryz.prog 112 #[.string ⟨#[111, 114]⟩] W fun e w' => e = .returned (.tuple #[.int .i64 0, .int .i64 0]) ∧ w' = W := by
  go_enter Tryz.func112, Tryz.ntmps112
  go_wp2_with fail
  go_ret2
  exact ⟨rfl, rfl⟩
theorem p_one_self (W : World) : Calls Tryz.prog 112 #[.string ⟨#[115, 101, 108, 102]⟩] W fun e w' => e = .returned (.tuple #[.int .i64 5, .int .i64 0]) ∧ w' = W := by
  go_enter Tryz.func112, Tryz.ntmps112
  go_wp2_with fail
  go_ret2
  exact ⟨rfl, rfl⟩
theorem p_one_size (W : World) : Calls Tryz.prog 112 #[.string ⟨#[115, 105, 122, 101]⟩] W fun e w' => e = .returned (.tuple #[.int .i64 14, .int .i64 1]) ∧ w' = W := by
  go_enter Tryz.func112, Tryz.ntmps112
  go_wp2_with fail
  go_ret2
  exact ⟨rfl, rfl⟩
theorem p_one_sum (W : World) : Calls Tryz.prog 112 #[.string ⟨#[115, 117, 109]⟩] W fun e w' => e = .returned (.tuple #[.int .i64 34, .int .i64 2]) ∧ w' = W := by
  go_enter Tryz.func112, Tryz.ntmps112
  go_wp2_with fail
  go_ret2
  exact ⟨rfl, rfl⟩
theorem p_one_text (W : World) : Calls Tryz.prog 112 #[.string ⟨#[116, 101, 120, 116]⟩] W fun e w' => e = .returned (.tuple #[.int .i64 16, .int .i64 1]) ∧ w' = W := by
  go_enter Tryz.func112, Tryz.ntmps112
  go_wp2_with fail
  go_ret2
  exact ⟨rfl, rfl⟩
theorem p_one_then (W : World) : Calls Tryz.prog 112 #[.string ⟨#[116, 104, 101, 110]⟩] W fun e w' => e = .returned (.tuple #[.int .i64 0, .int .i64 0]) ∧ w' = W := by
  go_enter Tryz.func112, Tryz.ntmps112
  go_wp2_with fail
  go_ret2
  exact ⟨rfl, rfl⟩
theorem p_one_true (W : World) : Calls Tryz.prog 112 #[.string ⟨#[116, 114, 117, 101]⟩] W fun e w' => e = .returned (.tuple #[.int .i64 3, .int .i64 0]) ∧ w' = W := by
  go_enter Tryz.func112, Tryz.ntmps112
  go_wp2_with fail
  go_ret2
  exact ⟨rfl, rfl⟩
theorem p_one {s : List Nat} (hs : s ∈ wordsL) (W : World) : Calls Tryz.prog 112 #[.string (txt s)] W fun e w' => e = .returned (.tuple #[.int .i64 ((oneN s).1 : Int), .int .i64 ((oneN s).2 : Int)]) ∧ w' = W := by
  simp only [wordsL, List.mem_cons, List.not_mem_nil, or_false] at hs
  rcases hs with rfl | rfl | rfl | rfl | rfl | rfl | rfl | rfl | rfl | rfl | rfl | rfl | rfl | rfl | rfl | rfl | rfl | rfl | rfl | rfl | rfl | rfl
  · exact p_one_and W
  · exact p_one_any W
  · exact p_one_concept W
  · exact p_one_else W
  · exact p_one_end W
  · exact p_one_every W
  · exact p_one_false W
  · exact p_one_first W
  · exact p_one_id W
  · exact p_one_if W
  · exact p_one_in W
  · exact p_one_int W
  · exact p_one_none W
  · exact p_one_not W
  · exact p_one_only W
  · exact p_one_or W
  · exact p_one_self W
  · exact p_one_size W
  · exact p_one_sum W
  · exact p_one_text W
  · exact p_one_then W
  · exact p_one_true W
end Go.Proofs.YtidkbodmiegbkaaGreatDoor
namespace Go.Proofs.YtidkbodmiegbkaaGreatDoor
set_option linter.unusedSimpArgs false
set_option linter.unusedVariables false
open Go.RowKit
theorem quiet_callw {P : Program} {f : FuncId} {args : Array Value} {w : World} {n : Nat} {v : Value} (h : Calls P f args (w.drewN n) fun e w' => e = .returned v ∧ w' = w.drewN n) :
    Calls P f args (w.drewN n) fun e w'' => e = .returned v ∧ ∃ m, w'' = w.drewN m :=
  h.mono fun _ _ ⟨he, hm⟩ => ⟨he, n, hm⟩
/-- a region that is gone through in several orders, and comes to one form -/
theorem region_split {P : Program} {id : Nat} {ops : Array Oper} {dr : Bool} {Q : Exit → Act → World → Prop} {a : Act} {X : World} (R : Nat → World → Nat → Nat → World → Prop) (Fr : Nat → World → Nat → Nat → Act)
    (h : (∀ g1 w3 b cap w6, R g1 w3 b cap w6 → Q .normal (Fr g1 w3 b cap) w6) → Code.wp P (Code.region id ops dr) Q a X) (key : ∀ g1 w3 b cap w6, R g1 w3 b cap w6 → Q .normal (Fr g1 w3 b cap) w6) : Code.wp P (Code.region id ops dr) Q a X := h key
theorem lit_openT : txt openT = ⟨#[40]⟩ := by decide
theorem lit_closeT : txt closeT = ⟨#[41]⟩ := by decide
theorem lit_inT : txt inT = ⟨#[105, 110]⟩ := by decide
theorem lit_colonT : txt colonT = ⟨#[58]⟩ := by decide
theorem lit_endT : txt endT = ⟨#[101, 110, 100]⟩ := by decide
theorem lit_thenT : txt thenT = ⟨#[116, 104, 101, 110]⟩ := by decide
theorem lit_elseT : txt elseT = ⟨#[101, 108, 115, 101]⟩ := by decide
section
variable {q : Nat} {a : Option Addr} {c sz : Nat} {l : List Tok} {i : Nat} {W : World}
theorem want_yes {s : List Nat} {r : PR} (h : isT l i s = true) : want l i s r = r := by unfold want; rw [if_pos h]
theorem want_no {s : List Nat} {r : PR} (h : isT l i s = false) : want l i s r = .no i := by unfold want; rw [if_neg (by rw [h]; simp)]
theorem oneN_le (s : List Nat) : (oneN s).2 ≤ 3 := by
  unfold oneN
  cases h : onesL.find? (fun x => decide (x.1 = s)) with
  | none => exact Nat.zero_le _
  | some x =>
    have : ∀ m ∈ onesL, m.2.2 ≤ 3 := by decide
    exact this _ (List.mem_of_find?_eq_some h)
/-- what begins with a word, in the grammar's words -/
def wordR (l : List Tok) (f i : Nat) (s : List Nat) : PR :=
  if (oneN s).1 = 0 then .no i
  else if (oneN s).2 = 0 then .ok (.node (oneN s).1 [] 0 []) (i + 1)
  else if (oneN s).2 = 1 then want l (i + 1) openT ((pL l f 1 (i + 2)).bind fun a j => want l j closeT (.ok (.node (oneN s).1 [] 0 [a]) (j + 1)))
  else if (oneN s).2 = 2 then nameAt l (i + 1) fun s' => want l (i + 2) inT ((pL l f 1 (i + 3)).bind fun a j => want l j colonT ((pL l f 1 (j + 1)).bind fun b m => want l m endT (.ok (.node (oneN s).1 s' 0 [a, b]) (m + 1))))
  else (pL l f 1 (i + 1)).bind fun a j => want l j thenT ((pL l f 1 (j + 1)).bind fun b m => want l m elseT ((pL l f 1 (m + 1)).bind fun c q => want l q endT (.ok (.node (oneN s).1 [] 0 [a, b, c]) (q + 1))))
theorem wordR_match (l : List Tok) (f i : Nat) (s : List Nat) : (match oneN s with
  | (0, _) => PR.no i
  | (k, 0) => .ok (.node k [] 0 []) (i + 1)
  | (k, 1) => want l (i + 1) openT ((pL l f 1 (i + 2)).bind fun a j => want l j closeT (.ok (.node k [] 0 [a]) (j + 1)))
  | (k, 2) => nameAt l (i + 1) fun s => want l (i + 2) inT ((pL l f 1 (i + 3)).bind fun a j => want l j colonT ((pL l f 1 (j + 1)).bind fun b m => want l m endT (.ok (.node k s 0 [a, b]) (m + 1))))
  | (k, _) => (pL l f 1 (i + 1)).bind fun a j => want l j thenT ((pL l f 1 (j + 1)).bind fun b m => want l m elseT ((pL l f 1 (m + 1)).bind fun c q => want l q endT (.ok (.node k [] 0 [a, b, c]) (q + 1))))) = wordR l f i s := by
  unfold wordR
  obtain ⟨⟨k, p⟩, h⟩ : ∃ z, oneN s = z := ⟨_, rfl⟩
  rw [h]
  split
  · simp_all
  all_goals (rename_i h1; simp_all)
set_option maxRecDepth 100000 in
set_option maxHeartbeats 8000000 in
theorem p_word {t : Tok} (ht : l[i]? = some t) (hw : t.text ∈ wordsL) (f : Nat) (HO : LevelC q a c sz l 33 (fun i => pL l f 1 i)) (h : PSt q a c sz l i W) (hr : wordR l f i t.text ≠ .out) :
    Calls Tryz.prog 110 #[.pointer (some ⟨q, 0, none⟩)] W (Reads q a c sz l W (wordR l f i t.text)) := by
  obtain ⟨tt, htt⟩ : ∃ k, t.text = k := ⟨_, rfl⟩
  have ONE := Lib.hid (fun X => p_one (s := tt) (by rw [← htt]; exact hw) X)
  obtain ⟨jI, hi, hz, hsz, hby⟩ := info_parts info_ptr
  have I := Lib.hid (And.intro hi (And.intro hz (And.intro hsz hby)))
  clear hi hz hsz hby
  have H := Lib.hid h
  have QL := Lib.hid h.box.lt
  have hlt := (List.getElem?_eq_some_iff.1 ht).1
  have hfew := h.few
  obtain ⟨f0, f1, f2, f3, f4⟩ := h.facts
  obtain ⟨b0, off, rfl, t0, t1, _, _, hok⟩ := h.tok ht
  rw [htt] at t1 hr ⊢
  have ST := Lib.hid (fun n => h.step (j := i + 1) (u := .int .i64 ((i : Int) + 1)) (by go_num) hlt n)
  obtain ⟨n, hn⟩ : ∃ n, l.length = n := ⟨_, rfl⟩
  have Hn := Lib.hid hn
  rw [hn] at f0 hlt hfew
  have n63 : n ≤ 9223372036854775807 := by omega
  have i5 : (i : Int) ≤ 5000 := by omega
  have i0 : (0 : Int) ≤ (i : Int) := Int.natCast_nonneg _
  have ilt : (i : Int) < (n : Int) := by omega
  obtain ⟨⟨k, pt⟩, hone⟩ : ∃ z, oneN tt = z := ⟨_, rfl⟩
  rw [hone] at ONE
  unfold wordR at hr ⊢
  rw [hone] at hr ⊢
  simp only at hr ONE
  have hp3 : pt ≤ 3 := by have := oneN_le tt; rw [hone] at this; exact this
  have HON := Lib.hid hone
  clear hone htt hw hok t0 hn ht h
  by_cases hk0 : k = 0
  · subst hk0
    have HG : Hid (∀ X, PSt q (some ⟨b0, off, none⟩) c sz l i X → Calls Tryz.prog 34 #[.pointer (some ⟨q, 0, none⟩)] X fun e w' => e = .panicked (thrownE (placeAt l sz i)) ∧ Quiet X w') := Lib.hid (fun X hX => p_give hX)
    simp only [if_true]
    clear hr HO
    go_enter Tryz.func110, Tryz.ntmps110
    go_wp2_with fail
    go_quiet ((go_at_call 112; with_reducible exact quiet_callw (ONE.out _)))
    go_wp2_with (first
      | (go_at_call 34; refine (HG.out _ (H.out.quiet ⟨_, rfl⟩)).mono ?_; rintro e w2 ⟨rfl, q2⟩; have Q2 := Lib.hid q2; clear q2))
    exact ⟨rfl, rfl, (Mv.quiet ⟨_, rfl⟩).trans (Mv.quiet Q2.out)⟩
  · have d1 : ((k : Int) == 0) = false := by simp; omega
    rw [if_neg hk0] at hr
    simp only [if_neg hk0]
    clear hk0
    obtain ⟨r, hrr⟩ : ∃ r, (if pt = 0 then PR.ok (.node k [] 0 []) (i + 1)
      else if pt = 1 then want l (i + 1) openT ((pL l f 1 (i + 2)).bind fun a j => want l j closeT (.ok (.node k [] 0 [a]) (j + 1)))
      else if pt = 2 then nameAt l (i + 1) fun s' => want l (i + 2) inT ((pL l f 1 (i + 3)).bind fun a j => want l j colonT ((pL l f 1 (j + 1)).bind fun b m => want l m endT (.ok (.node k s' 0 [a, b]) (m + 1))))
      else (pL l f 1 (i + 1)).bind fun a j => want l j thenT ((pL l f 1 (j + 1)).bind fun b m => want l m elseT ((pL l f 1 (m + 1)).bind fun c q => want l q endT (.ok (.node k [] 0 [a, b, c]) (q + 1))))) = r := ⟨_, rfl⟩
    rw [hrr] at hr ⊢
    have HNE := Lib.hid hr
    have HC : Hid (∀ (j : Nat) (X : World) (r' : PR), PSt q (some ⟨b0, off, none⟩) c sz l j X → pL l f 1 j = r' → r' ≠ .out → Calls Tryz.prog 33 #[.pointer (some ⟨q, 0, none⟩)] X (Reads q (some ⟨b0, off, none⟩) c sz l X r')) := Lib.hid (fun j X r' hX e he => by rw [← e]; exact HO j X hX (by show pL l f 1 j ≠ .out; rw [e]; exact he))
    have SW : Hid (∀ m, WS q (some ⟨b0, off, none⟩) c sz l W W.heap.size k [] [] (i + 1) (((W.drewN m).setCell ⟨q, 1, none⟩ (.int .i64 ((i : Int) + 1))).alloc (.cells #[.int .i64 (k : Int), .string (txt []), .int .i64 0, .slice none 0 0, .slice none 0 0] 107)) (.slice none 0 0)) := Lib.hid (fun m => by have h0 := WS.new (k := k) (s := []) (ST.out m).1 (ST.out m).2 QL.out; simp only [World.size_setCell] at h0; exact h0)
    clear hr HO
    rcases (show pt = 0 ∨ pt = 1 ∨ pt = 2 ∨ pt = 3 by omega) with rfl | rfl | rfl | rfl
    · have hr1 : PR.ok (.node k [] 0 []) (i + 1) = r := hrr
      subst hr1
      clear hrr
      go_enter Tryz.func110, Tryz.ntmps110
      go_wp2_with fail
      go_quiet ((go_at_call 112; with_reducible exact quiet_callw (ONE.out _)))
      go_wp2_with (first
        | (go_at_call 78; refine (p_of k [] _ _ _ _).mono ?_; rintro e w4 ⟨rfl, rfl⟩))
      go_ret
      exact (SW.out _).reads
    · have hr1 : want l (i + 1) openT ((pL l f 1 (i + 2)).bind fun a j => want l j closeT (.ok (.node k [] 0 [a]) (j + 1))) = r := hrr
      have HR := Lib.hid hr1
      clear hrr hr1
      go_enter Tryz.func110, Tryz.ntmps110
      go_wp2_with fail
      go_quiet ((go_at_call 112; with_reducible exact quiet_callw (ONE.out _)))
      go_wp2_with (first
        | (go_at_call 78; refine (p_of k [] _ _ _ _).mono ?_; rintro e w4 ⟨rfl, rfl⟩))
      generalize hwq : World.alloc (World.setCell _ _ _) _ = X1
      have S1 : Hid (WS q (some ⟨b0, off, none⟩) c sz l W W.heap.size k [] [] (i + 1) X1 (.slice none 0 0)) := Lib.hid (by rw [← hwq]; exact SW.out _)
      clear hwq
      obtain ⟨g, hg⟩ : ∃ g, W.heap.size = g := ⟨_, rfl⟩
      rw [hg] at S1 ⊢
      have HG := Lib.hid hg
      clear hg f0 f1 f2 f3 f4 t1
      obtain ⟨b, hb⟩ : ∃ b, isT l (i + 1) openT = b := ⟨_, rfl⟩
      cases b with
      | false =>
        have hr := HR.out
        rw [want_no hb] at hr
        subst hr
        have HX : Calls Tryz.prog 111 #[.pointer (some ⟨q, 0, none⟩), .string ⟨#[40]⟩] X1 fun e w' => e = .panicked (thrownE (placeAt l sz (i + 1))) ∧ Quiet X1 w' := by rw [← lit_openT]; exact p_want_no openT (show ∀ n ∈ openT, n < 256 by decide) hb S1.out.st
        refine HX.mono ?_
        rintro e w2 ⟨rfl, q2⟩
        exact ⟨rfl, rfl, S1.out.mv.trans (Mv.quiet q2)⟩
      | true =>
        have hr := HR.out
        rw [want_yes hb] at hr
        clear HR
        have HR := Lib.hid hr
        have HX : Calls Tryz.prog 111 #[.pointer (some ⟨q, 0, none⟩), .string ⟨#[40]⟩] X1 fun e w' => e = .returned (.tuple #[]) ∧ Mv q X1 w' ∧ PSt q (some ⟨b0, off, none⟩) c sz l ((i + 1) + 1) w' := by rw [← lit_openT]; exact p_want_yes openT (show ∀ n ∈ openT, n < 256 by decide) hb S1.out.st
        clear hr hb
        refine HX.mono ?_
        rintro e X2 ⟨rfl, h2, h3⟩
        have S2 := Lib.hid (S1.out.call h2 h3)
        clear h2 h3 HX S1
        go_wp2_with fail
        obtain ⟨r1, hp⟩ : ∃ r1, pL l f 1 ((i + 1) + 1) = r1 := ⟨_, rfl⟩
        obtain ⟨y0, y1, c4, z1, z4, lg⟩ := S2.out.cells
        clear y0 y1 z1
        cases r1 with
        | out =>
          exfalso
          have hr := HR.out
          rw [hp] at hr
          exact HNE.out hr.symm
        | no j2 =>
          have hr := HR.out
          rw [hp] at hr
          have hr1 : PR.no j2 = r := hr
          subst hr1
          have HX := Lib.hid (HC.out ((i + 1) + 1) (X2.drewN 1) (.no j2) (S2.out.quiet ⟨1, rfl⟩).st hp (by simp))
          clear hr hp
          refine wp_region_held_drew (S := fun w' => w'.cell? ⟨g, 4, none⟩ = some (.slice none 0 0)) (by kernel_rfl) c4 (fun hHeld => ?_)
          refine wpAnyH_take (i := 0) (v := ?_) rfl (by kernel_rfl) (by kernel_rfl) (by kernel_rfl) (fun _ _ _ h => h) (Or.inl ⟨by rfl, ?_⟩) (by assumption) ?_
          rotate_left
          · intro w hSw; (try dsimp only at hSw); go_simp; with_reducible rfl
          try simp only [Act.put, List.setIfInBounds_toArray, List.set_cons_zero, List.set_cons_succ]
          refine wpAnyH_take (i := 1) (v := ?_) rfl (by kernel_rfl) (by kernel_rfl) (by kernel_rfl) (fun _ _ _ h => h) (Or.inl ⟨by rfl, ?_⟩) (by assumption) ?_
          rotate_left
          · intro w hSw; (try dsimp only at hSw); go_simp; with_reducible rfl
          try simp only [Act.put, List.setIfInBounds_toArray, List.set_cons_zero, List.set_cons_succ]
          refine wpAnyH_take (i := 2) (v := ?_) rfl (by kernel_rfl) (by kernel_rfl) (by kernel_rfl) (fun _ _ _ h => h) (Or.inl ⟨by rfl, ?_⟩) (by assumption) ?_
          rotate_left
          · intro w hSw; (try dsimp only at hSw); go_simp; with_reducible rfl
          try simp only [Act.put, List.setIfInBounds_toArray, List.set_cons_zero, List.set_cons_succ]
          refine wpAnyH_take (i := 3) (v := ?_) rfl (by kernel_rfl) (by kernel_rfl) (by kernel_rfl) (fun _ _ _ h => h) (Or.inl ⟨by rfl, ?_⟩) (by assumption) ?_
          rotate_left
          · intro w hSw; (try dsimp only at hSw); go_simp; with_reducible rfl
          try simp only [Act.put, List.setIfInBounds_toArray, List.set_cons_zero, List.set_cons_succ]
          refine wpAnyH_take (i := 4) (v := ?_) rfl (by kernel_rfl) (by kernel_rfl) (by kernel_rfl) (fun _ _ _ h => h) (Or.inl ⟨by rfl, ?_⟩) (by assumption) ?_
          rotate_left
          · intro w hSw; (try dsimp only at hSw); go_simp; with_reducible rfl
          try simp only [Act.put, List.setIfInBounds_toArray, List.set_cons_zero, List.set_cons_succ]
          refine wpAnyH_take (i := 5) (v := ?_) rfl (by kernel_rfl) (by kernel_rfl) (by kernel_rfl) (fun _ _ _ h => h) (Or.inl ⟨by rfl, ?_⟩) (by assumption) ?_
          rotate_left
          · intro w hSw; (try dsimp only at hSw); go_simp; with_reducible rfl
          try simp only [Act.put, List.setIfInBounds_toArray, List.set_cons_zero, List.set_cons_succ]
          refine wpAnyH_ready (rs := [6]) (by kernel_rfl) (by simp) ?_
          refine AllReadyH.cons rfl (fun K hK => ?_) AllReadyH.nil
          go_simp
          go_wp2_with (first
            | (refine HX.out.mono ?_; rintro e w3 ⟨rfl, h1⟩; have M3 : Hid (Mv q W w3) := Lib.hid (S2.out.mv.trans ((Mv.quiet ⟨1, rfl⟩).trans h1)); clear h1))
          exact ⟨rfl, rfl, M3.out⟩
        | ok t2 j2 =>
          have hr := HR.out
          rw [hp] at hr
          simp only [PR.bind] at hr
          clear HR
          have HR := Lib.hid hr
          have HX := Lib.hid (HC.out ((i + 1) + 1) (X2.drewN 1) (.ok t2 j2) (S2.out.quiet ⟨1, rfl⟩).st hp (by simp))
          obtain ⟨gs, hg1, hg2⟩ := S2.out.row
          have hgl := hg2.len
          have G1 := Lib.hid hg1
          have G2 := Lib.hid hg2
          have GL := Lib.hid hgl
          clear hr hp hg1 hg2 hgl
          refine' region_split (fun g1 w3 b cap w6 => WS q (some ⟨b0, off, none⟩) c sz l W g k [] [t2] j2 w6 (.slice (some ⟨b, 0, none⟩) 1 cap)) _ ?_ ?_
          rotate_left
          · intro key
            have KEY := Lib.hid key
            clear key
            go_region_law (first
              | (go_simp; go_at_call 33; refine HX.out.mono ?_; rintro e w3 h2; obtain ⟨g1, rfl, h3, h4, h5⟩ := h2.get; have c43 : w3.cell? ⟨g, 4, none⟩ = some (.slice none 0 0) := h4.cell (by have := S2.out.ql; have := S2.out.lo; show q < g; omega) c4; have lg3 := cell_lt c43; have T3 := Lib.hid h3; have M3 := Lib.hid h4; have P3 := Lib.hid h5; clear h2 h3 h4 h5)
              | (refine step_append_lies _ (by rfl) (.tmp 43) (.tmp 46) _ (by rfl) (g + 1) 74 jI (.pointer none) 1 8 Tryz.underlying105 I.out.1 I.out.2.1 I.out.2.2.1 I.out.2.2.2 rfl (by omega) (.slice none 0 0) 0 _ (by rfl) (S2.out.own4 G1.out ⟨1, rfl⟩ M3.out (.cells #[.pointer (some ⟨g1, 0, none⟩)] 74) 0 GL.out) ⟨w3.heap.size, 0, none⟩ 1 1 [.pointer (some ⟨g1, 0, none⟩)] (by rfl) (by rfl) (news1 w3 _ 74) (by simp [Value.oneCell']) (by omega) (by unfold maxLen; omega) (by omega) (by rw [World.size_alloc]; have : g < w3.heap.size := lg3; omega) (w3.heap.size + 1) (by rw [World.size_alloc]) ?_; intro b5 cap5 w5 hown hgrow hat hlt; have bx := S2.out.box5 ⟨1, rfl⟩ M3.out _ hgrow; have c45 : w5.cell? ⟨g, 4, none⟩ = some (.slice none 0 0) := bx.cell rfl; have z45 : w5.frozen? ⟨g, 4, none⟩ = false := bx.frozen 4; have A5 := Lib.hid (And.intro hown (And.intro hgrow hat)); clear hown hgrow hat hlt bx))
            all_goals exact KEY.out g1 w3 b5 cap5 _ (S2.out.push ⟨1, rfl⟩ M3.out T3.out P3.out G1.out G2.out GL.out rfl A5.out.1 A5.out.2.1 A5.out.2.2 rfl)
          · clear c4 z4 lg G1 G2 GL HX
            intro g1 w3 b2 cap2 X3 h2
            have S3 := Lib.hid h2
            clear h2 S2
            go_wp2_with fail
            obtain ⟨b, hb⟩ : ∃ b, isT l j2 closeT = b := ⟨_, rfl⟩
            cases b with
            | false =>
              have hr := HR.out
              rw [want_no hb] at hr
              subst hr
              have HX : Calls Tryz.prog 111 #[.pointer (some ⟨q, 0, none⟩), .string ⟨#[41]⟩] X3 fun e w' => e = .panicked (thrownE (placeAt l sz j2)) ∧ Quiet X3 w' := by rw [← lit_closeT]; exact p_want_no closeT (show ∀ n ∈ closeT, n < 256 by decide) hb S3.out.st
              refine HX.mono ?_
              rintro e w2 ⟨rfl, q2⟩
              exact ⟨rfl, rfl, S3.out.mv.trans (Mv.quiet q2)⟩
            | true =>
              have hr := HR.out
              rw [want_yes hb] at hr
              clear HR
              have HR := Lib.hid hr
              have HX : Calls Tryz.prog 111 #[.pointer (some ⟨q, 0, none⟩), .string ⟨#[41]⟩] X3 fun e w' => e = .returned (.tuple #[]) ∧ Mv q X3 w' ∧ PSt q (some ⟨b0, off, none⟩) c sz l (j2 + 1) w' := by rw [← lit_closeT]; exact p_want_yes closeT (show ∀ n ∈ closeT, n < 256 by decide) hb S3.out.st
              clear hr hb
              refine HX.mono ?_
              rintro e X4 ⟨rfl, h2, h3⟩
              have S4 := Lib.hid (S3.out.call h2 h3)
              clear h2 h3 HX S3
              go_wp2_with fail
              have hr := HR.out
              subst hr
              go_ret
              exact S4.out.reads
    · have hr1 : (nameAt l (i + 1) fun s' => want l (i + 2) inT ((pL l f 1 (i + 3)).bind fun a j => want l j colonT ((pL l f 1 (j + 1)).bind fun b m => want l m endT (.ok (.node k s' 0 [a, b]) (m + 1))))) = r := hrr
      have HR := Lib.hid hr1
      clear hrr hr1
      go_enter Tryz.func110, Tryz.ntmps110
      go_wp2_with fail
      go_quiet ((go_at_call 112; with_reducible exact quiet_callw (ONE.out _)))
      go_wp2_with (first
        | (go_at_call 78; refine (p_of k [] _ _ _ _).mono ?_; rintro e w4 ⟨rfl, rfl⟩))
      generalize hwq : World.alloc (World.setCell _ _ _) _ = X1
      have S1 : Hid (WS q (some ⟨b0, off, none⟩) c sz l W W.heap.size k [] [] (i + 1) X1 (.slice none 0 0)) := Lib.hid (by rw [← hwq]; exact SW.out _)
      clear hwq
      obtain ⟨g, hg⟩ : ∃ g, W.heap.size = g := ⟨_, rfl⟩
      rw [hg] at S1 ⊢
      have HG := Lib.hid hg
      clear hg f0 f1 f2 f3 f4 t1
      by_cases hnm : ∃ tk, l[i + 1]? = some tk ∧ tk.kind = 3
      · obtain ⟨tk, htk, hkd⟩ := hnm
        have hr := HR.out
        unfold nameAt at hr
        rw [htk] at hr
        simp only at hr
        rw [if_pos hkd] at hr
        clear HR
        have HR := Lib.hid hr
        have HX := Lib.hid (p_name_yes htk hkd S1.out.st)
        clear hr htk hkd
        refine HX.out.mono ?_
        rintro e X2 ⟨rfl, h2, h3⟩
        have S2 := Lib.hid (S1.out.call h2 h3)
        clear h2 h3 HX S1
        obtain ⟨y0, y1, y4, z1, z4, lg⟩ := S2.out.cells
        clear y0 y4 z4
        go_wp2_with fail
        generalize hwq : World.setCell _ _ _ = X3
        have S3 : Hid (WS q (some ⟨b0, off, none⟩) c sz l W g k tk.text [] (i + 2) X3 (.slice none 0 0)) := Lib.hid (by rw [← hwq]; exact S2.out.name rfl)
        clear hwq S2 y1 z1 lg
        obtain ⟨b, hb⟩ : ∃ b, isT l (i + 2) inT = b := ⟨_, rfl⟩
        cases b with
        | false =>
          have hr := HR.out
          rw [want_no hb] at hr
          subst hr
          have HX : Calls Tryz.prog 111 #[.pointer (some ⟨q, 0, none⟩), .string ⟨#[105, 110]⟩] X3 fun e w' => e = .panicked (thrownE (placeAt l sz (i + 2))) ∧ Quiet X3 w' := by rw [← lit_inT]; exact p_want_no inT (show ∀ n ∈ inT, n < 256 by decide) hb S3.out.st
          refine HX.mono ?_
          rintro e w2 ⟨rfl, q2⟩
          exact ⟨rfl, rfl, S3.out.mv.trans (Mv.quiet q2)⟩
        | true =>
          have hr := HR.out
          rw [want_yes hb] at hr
          clear HR
          have HR := Lib.hid hr
          have HX : Calls Tryz.prog 111 #[.pointer (some ⟨q, 0, none⟩), .string ⟨#[105, 110]⟩] X3 fun e w' => e = .returned (.tuple #[]) ∧ Mv q X3 w' ∧ PSt q (some ⟨b0, off, none⟩) c sz l ((i + 2) + 1) w' := by rw [← lit_inT]; exact p_want_yes inT (show ∀ n ∈ inT, n < 256 by decide) hb S3.out.st
          clear hr hb
          refine HX.mono ?_
          rintro e X4 ⟨rfl, h2, h3⟩
          have S4 := Lib.hid (S3.out.call h2 h3)
          clear h2 h3 HX S3
          go_wp2_with fail
          obtain ⟨r1, hp⟩ : ∃ r1, pL l f 1 ((i + 2) + 1) = r1 := ⟨_, rfl⟩
          obtain ⟨y0, y1, c4, z1, z4, lg⟩ := S4.out.cells
          clear y0 y1 z1
          cases r1 with
          | out =>
            exfalso
            have hr := HR.out
            rw [hp] at hr
            exact HNE.out hr.symm
          | no j2 =>
            have hr := HR.out
            rw [hp] at hr
            have hr1 : PR.no j2 = r := hr
            subst hr1
            have HX := Lib.hid (HC.out ((i + 2) + 1) (X4.drewN 1) (.no j2) (S4.out.quiet ⟨1, rfl⟩).st hp (by simp))
            clear hr hp
            refine wp_region_held_drew (S := fun w' => w'.cell? ⟨g, 4, none⟩ = some (.slice none 0 0)) (by kernel_rfl) c4 (fun hHeld => ?_)
            refine wpAnyH_take (i := 0) (v := ?_) rfl (by kernel_rfl) (by kernel_rfl) (by kernel_rfl) (fun _ _ _ h => h) (Or.inl ⟨by rfl, ?_⟩) (by assumption) ?_
            rotate_left
            · intro w hSw; (try dsimp only at hSw); go_simp; with_reducible rfl
            try simp only [Act.put, List.setIfInBounds_toArray, List.set_cons_zero, List.set_cons_succ]
            refine wpAnyH_take (i := 1) (v := ?_) rfl (by kernel_rfl) (by kernel_rfl) (by kernel_rfl) (fun _ _ _ h => h) (Or.inl ⟨by rfl, ?_⟩) (by assumption) ?_
            rotate_left
            · intro w hSw; (try dsimp only at hSw); go_simp; with_reducible rfl
            try simp only [Act.put, List.setIfInBounds_toArray, List.set_cons_zero, List.set_cons_succ]
            refine wpAnyH_take (i := 2) (v := ?_) rfl (by kernel_rfl) (by kernel_rfl) (by kernel_rfl) (fun _ _ _ h => h) (Or.inl ⟨by rfl, ?_⟩) (by assumption) ?_
            rotate_left
            · intro w hSw; (try dsimp only at hSw); go_simp; with_reducible rfl
            try simp only [Act.put, List.setIfInBounds_toArray, List.set_cons_zero, List.set_cons_succ]
            refine wpAnyH_take (i := 3) (v := ?_) rfl (by kernel_rfl) (by kernel_rfl) (by kernel_rfl) (fun _ _ _ h => h) (Or.inl ⟨by rfl, ?_⟩) (by assumption) ?_
            rotate_left
            · intro w hSw; (try dsimp only at hSw); go_simp; with_reducible rfl
            try simp only [Act.put, List.setIfInBounds_toArray, List.set_cons_zero, List.set_cons_succ]
            refine wpAnyH_take (i := 4) (v := ?_) rfl (by kernel_rfl) (by kernel_rfl) (by kernel_rfl) (fun _ _ _ h => h) (Or.inl ⟨by rfl, ?_⟩) (by assumption) ?_
            rotate_left
            · intro w hSw; (try dsimp only at hSw); go_simp; with_reducible rfl
            try simp only [Act.put, List.setIfInBounds_toArray, List.set_cons_zero, List.set_cons_succ]
            refine wpAnyH_take (i := 5) (v := ?_) rfl (by kernel_rfl) (by kernel_rfl) (by kernel_rfl) (fun _ _ _ h => h) (Or.inl ⟨by rfl, ?_⟩) (by assumption) ?_
            rotate_left
            · intro w hSw; (try dsimp only at hSw); go_simp; with_reducible rfl
            try simp only [Act.put, List.setIfInBounds_toArray, List.set_cons_zero, List.set_cons_succ]
            refine wpAnyH_ready (rs := [6]) (by kernel_rfl) (by simp) ?_
            refine AllReadyH.cons rfl (fun K hK => ?_) AllReadyH.nil
            go_simp
            go_wp2_with (first
              | (refine HX.out.mono ?_; rintro e w3 ⟨rfl, h1⟩; have M3 : Hid (Mv q W w3) := Lib.hid (S4.out.mv.trans ((Mv.quiet ⟨1, rfl⟩).trans h1)); clear h1))
            exact ⟨rfl, rfl, M3.out⟩
          | ok t4 j4 =>
            have hr := HR.out
            rw [hp] at hr
            simp only [PR.bind] at hr
            clear HR
            have HR := Lib.hid hr
            have HX := Lib.hid (HC.out ((i + 2) + 1) (X4.drewN 1) (.ok t4 j4) (S4.out.quiet ⟨1, rfl⟩).st hp (by simp))
            obtain ⟨gs, hg1, hg2⟩ := S4.out.row
            have hgl := hg2.len
            have G1 := Lib.hid hg1
            have G2 := Lib.hid hg2
            have GL := Lib.hid hgl
            clear hr hp hg1 hg2 hgl
            refine' region_split (fun g1 w3 b cap w6 => WS q (some ⟨b0, off, none⟩) c sz l W g k tk.text [t4] j4 w6 (.slice (some ⟨b, 0, none⟩) 1 cap)) _ ?_ ?_
            rotate_left
            · intro key
              have KEY := Lib.hid key
              clear key
              go_region_law (first
                | (go_simp; go_at_call 33; refine HX.out.mono ?_; rintro e w3 h2; obtain ⟨g1, rfl, h3, h4, h5⟩ := h2.get; have c43 : w3.cell? ⟨g, 4, none⟩ = some (.slice none 0 0) := h4.cell (by have := S4.out.ql; have := S4.out.lo; show q < g; omega) c4; have lg3 := cell_lt c43; have T3 := Lib.hid h3; have M3 := Lib.hid h4; have P3 := Lib.hid h5; clear h2 h3 h4 h5)
                | (refine step_append_lies _ (by rfl) (.tmp 66) (.tmp 69) _ (by rfl) (g + 1) 74 jI (.pointer none) 1 8 Tryz.underlying105 I.out.1 I.out.2.1 I.out.2.2.1 I.out.2.2.2 rfl (by omega) (.slice none 0 0) 0 _ (by rfl) (S4.out.own4 G1.out ⟨1, rfl⟩ M3.out (.cells #[.pointer (some ⟨g1, 0, none⟩)] 74) 0 GL.out) ⟨w3.heap.size, 0, none⟩ 1 1 [.pointer (some ⟨g1, 0, none⟩)] (by rfl) (by rfl) (news1 w3 _ 74) (by simp [Value.oneCell']) (by omega) (by unfold maxLen; omega) (by omega) (by rw [World.size_alloc]; have : g < w3.heap.size := lg3; omega) (w3.heap.size + 1) (by rw [World.size_alloc]) ?_; intro b5 cap5 w5 hown hgrow hat hlt; have bx := S4.out.box5 ⟨1, rfl⟩ M3.out _ hgrow; have c45 : w5.cell? ⟨g, 4, none⟩ = some (.slice none 0 0) := bx.cell rfl; have z45 : w5.frozen? ⟨g, 4, none⟩ = false := bx.frozen 4; have A5 := Lib.hid (And.intro hown (And.intro hgrow hat)); clear hown hgrow hat hlt bx))
              all_goals exact KEY.out g1 w3 b5 cap5 _ (S4.out.push ⟨1, rfl⟩ M3.out T3.out P3.out G1.out G2.out GL.out rfl A5.out.1 A5.out.2.1 A5.out.2.2 rfl)
            · clear c4 z4 lg G1 G2 GL HX
              intro g1 w3 b4 cap4 X5 h2
              have S5 := Lib.hid h2
              clear h2 S4
              go_wp2_with fail
              obtain ⟨b, hb⟩ : ∃ b, isT l j4 colonT = b := ⟨_, rfl⟩
              cases b with
              | false =>
                have hr := HR.out
                rw [want_no hb] at hr
                subst hr
                have HX : Calls Tryz.prog 111 #[.pointer (some ⟨q, 0, none⟩), .string ⟨#[58]⟩] X5 fun e w' => e = .panicked (thrownE (placeAt l sz j4)) ∧ Quiet X5 w' := by rw [← lit_colonT]; exact p_want_no colonT (show ∀ n ∈ colonT, n < 256 by decide) hb S5.out.st
                refine HX.mono ?_
                rintro e w2 ⟨rfl, q2⟩
                exact ⟨rfl, rfl, S5.out.mv.trans (Mv.quiet q2)⟩
              | true =>
                have hr := HR.out
                rw [want_yes hb] at hr
                clear HR
                have HR := Lib.hid hr
                have HX : Calls Tryz.prog 111 #[.pointer (some ⟨q, 0, none⟩), .string ⟨#[58]⟩] X5 fun e w' => e = .returned (.tuple #[]) ∧ Mv q X5 w' ∧ PSt q (some ⟨b0, off, none⟩) c sz l (j4 + 1) w' := by rw [← lit_colonT]; exact p_want_yes colonT (show ∀ n ∈ colonT, n < 256 by decide) hb S5.out.st
                clear hr hb
                refine HX.mono ?_
                rintro e X6 ⟨rfl, h2, h3⟩
                have S6 := Lib.hid (S5.out.call h2 h3)
                clear h2 h3 HX S5
                go_wp2_with fail
                obtain ⟨r1, hp⟩ : ∃ r1, pL l f 1 (j4 + 1) = r1 := ⟨_, rfl⟩
                obtain ⟨y0, y1, c4, z1, z4, lg⟩ := S6.out.cells
                clear y0 y1 z1
                cases r1 with
                | out =>
                  exfalso
                  have hr := HR.out
                  rw [hp] at hr
                  exact HNE.out hr.symm
                | no j2 =>
                  have hr := HR.out
                  rw [hp] at hr
                  have hr1 : PR.no j2 = r := hr
                  subst hr1
                  have HX := Lib.hid (HC.out (j4 + 1) (X6.drewN 1) (.no j2) (S6.out.quiet ⟨1, rfl⟩).st hp (by simp))
                  clear hr hp
                  refine wp_region_held_drew (S := fun w' => w'.cell? ⟨g, 4, none⟩ = some (.slice (some ⟨b4, 0, none⟩) 1 cap4)) (by kernel_rfl) c4 (fun hHeld => ?_)
                  refine wpAnyH_take (i := 0) (v := ?_) rfl (by kernel_rfl) (by kernel_rfl) (by kernel_rfl) (fun _ _ _ h => h) (Or.inl ⟨by rfl, ?_⟩) (by assumption) ?_
                  rotate_left
                  · intro w hSw; (try dsimp only at hSw); go_simp; with_reducible rfl
                  try simp only [Act.put, List.setIfInBounds_toArray, List.set_cons_zero, List.set_cons_succ]
                  refine wpAnyH_take (i := 1) (v := ?_) rfl (by kernel_rfl) (by kernel_rfl) (by kernel_rfl) (fun _ _ _ h => h) (Or.inl ⟨by rfl, ?_⟩) (by assumption) ?_
                  rotate_left
                  · intro w hSw; (try dsimp only at hSw); go_simp; with_reducible rfl
                  try simp only [Act.put, List.setIfInBounds_toArray, List.set_cons_zero, List.set_cons_succ]
                  refine wpAnyH_take (i := 2) (v := ?_) rfl (by kernel_rfl) (by kernel_rfl) (by kernel_rfl) (fun _ _ _ h => h) (Or.inl ⟨by rfl, ?_⟩) (by assumption) ?_
                  rotate_left
                  · intro w hSw; (try dsimp only at hSw); go_simp; with_reducible rfl
                  try simp only [Act.put, List.setIfInBounds_toArray, List.set_cons_zero, List.set_cons_succ]
                  refine wpAnyH_take (i := 3) (v := ?_) rfl (by kernel_rfl) (by kernel_rfl) (by kernel_rfl) (fun _ _ _ h => h) (Or.inl ⟨by rfl, ?_⟩) (by assumption) ?_
                  rotate_left
                  · intro w hSw; (try dsimp only at hSw); go_simp; with_reducible rfl
                  try simp only [Act.put, List.setIfInBounds_toArray, List.set_cons_zero, List.set_cons_succ]
                  refine wpAnyH_take (i := 4) (v := ?_) rfl (by kernel_rfl) (by kernel_rfl) (by kernel_rfl) (fun _ _ _ h => h) (Or.inl ⟨by rfl, ?_⟩) (by assumption) ?_
                  rotate_left
                  · intro w hSw; (try dsimp only at hSw); go_simp; with_reducible rfl
                  try simp only [Act.put, List.setIfInBounds_toArray, List.set_cons_zero, List.set_cons_succ]
                  refine wpAnyH_take (i := 5) (v := ?_) rfl (by kernel_rfl) (by kernel_rfl) (by kernel_rfl) (fun _ _ _ h => h) (Or.inl ⟨by rfl, ?_⟩) (by assumption) ?_
                  rotate_left
                  · intro w hSw; (try dsimp only at hSw); go_simp; with_reducible rfl
                  try simp only [Act.put, List.setIfInBounds_toArray, List.set_cons_zero, List.set_cons_succ]
                  refine wpAnyH_ready (rs := [6]) (by kernel_rfl) (by simp) ?_
                  refine AllReadyH.cons rfl (fun K hK => ?_) AllReadyH.nil
                  go_simp
                  go_wp2_with (first
                    | (refine HX.out.mono ?_; rintro e w3 ⟨rfl, h1⟩; have M3 : Hid (Mv q W w3) := Lib.hid (S6.out.mv.trans ((Mv.quiet ⟨1, rfl⟩).trans h1)); clear h1))
                  exact ⟨rfl, rfl, M3.out⟩
                | ok t6 j6 =>
                  have hr := HR.out
                  rw [hp] at hr
                  simp only [PR.bind] at hr
                  clear HR
                  have HR := Lib.hid hr
                  have HX := Lib.hid (HC.out (j4 + 1) (X6.drewN 1) (.ok t6 j6) (S6.out.quiet ⟨1, rfl⟩).st hp (by simp))
                  obtain ⟨gs, hg1, hg2⟩ := S6.out.row
                  have hgl := hg2.len
                  have G1 := Lib.hid hg1
                  have G2 := Lib.hid hg2
                  have GL := Lib.hid hgl
                  clear hr hp hg1 hg2 hgl
                  refine' region_split (fun g1 w3 b cap w6 => WS q (some ⟨b0, off, none⟩) c sz l W g k tk.text [t4, t6] j6 w6 (.slice (some ⟨b, 0, none⟩) 2 cap)) _ ?_ ?_
                  rotate_left
                  · intro key
                    have KEY := Lib.hid key
                    clear key
                    go_region_law (first
                      | (go_simp; go_at_call 33; refine HX.out.mono ?_; rintro e w3 h2; obtain ⟨g1, rfl, h3, h4, h5⟩ := h2.get; have c43 : w3.cell? ⟨g, 4, none⟩ = some (.slice (some ⟨b4, 0, none⟩) 1 cap4) := h4.cell (by have := S6.out.ql; have := S6.out.lo; show q < g; omega) c4; have lg3 := cell_lt c43; have T3 := Lib.hid h3; have M3 := Lib.hid h4; have P3 := Lib.hid h5; clear h2 h3 h4 h5)
                      | (refine step_append_lies _ (by rfl) (.tmp 79) (.tmp 82) _ (by rfl) (g + 1) 74 jI (.pointer none) 1 8 Tryz.underlying105 I.out.1 I.out.2.1 I.out.2.2.1 I.out.2.2.2 rfl (by omega) (.slice (some ⟨b4, 0, none⟩) 1 cap4) 1 _ (by rfl) (S6.out.own4 G1.out ⟨1, rfl⟩ M3.out (.cells #[.pointer (some ⟨g1, 0, none⟩)] 74) 1 GL.out) ⟨w3.heap.size, 0, none⟩ 1 1 [.pointer (some ⟨g1, 0, none⟩)] (by rfl) (by rfl) (news1 w3 _ 74) (by simp [Value.oneCell']) (by omega) (by unfold maxLen; omega) (by omega) (by rw [World.size_alloc]; have : g < w3.heap.size := lg3; omega) (w3.heap.size + 1) (by rw [World.size_alloc]) ?_; intro b5 cap5 w5 hown hgrow hat hlt; have bx := S6.out.box5 ⟨1, rfl⟩ M3.out _ hgrow; have c45 : w5.cell? ⟨g, 4, none⟩ = some (.slice (some ⟨b4, 0, none⟩) 1 cap4) := bx.cell rfl; have z45 : w5.frozen? ⟨g, 4, none⟩ = false := bx.frozen 4; have A5 := Lib.hid (And.intro hown (And.intro hgrow hat)); clear hown hgrow hat hlt bx))
                    all_goals exact KEY.out g1 w3 b5 cap5 _ (S6.out.push ⟨1, rfl⟩ M3.out T3.out P3.out G1.out G2.out GL.out rfl A5.out.1 A5.out.2.1 A5.out.2.2 rfl)
                  · clear c4 z4 lg G1 G2 GL HX
                    intro g1 w3 b6 cap6 X7 h2
                    have S7 := Lib.hid h2
                    clear h2 S6
                    go_wp2_with fail
                    obtain ⟨b, hb⟩ : ∃ b, isT l j6 endT = b := ⟨_, rfl⟩
                    cases b with
                    | false =>
                      have hr := HR.out
                      rw [want_no hb] at hr
                      subst hr
                      have HX : Calls Tryz.prog 111 #[.pointer (some ⟨q, 0, none⟩), .string ⟨#[101, 110, 100]⟩] X7 fun e w' => e = .panicked (thrownE (placeAt l sz j6)) ∧ Quiet X7 w' := by rw [← lit_endT]; exact p_want_no endT (show ∀ n ∈ endT, n < 256 by decide) hb S7.out.st
                      refine HX.mono ?_
                      rintro e w2 ⟨rfl, q2⟩
                      exact ⟨rfl, rfl, S7.out.mv.trans (Mv.quiet q2)⟩
                    | true =>
                      have hr := HR.out
                      rw [want_yes hb] at hr
                      clear HR
                      have HR := Lib.hid hr
                      have HX : Calls Tryz.prog 111 #[.pointer (some ⟨q, 0, none⟩), .string ⟨#[101, 110, 100]⟩] X7 fun e w' => e = .returned (.tuple #[]) ∧ Mv q X7 w' ∧ PSt q (some ⟨b0, off, none⟩) c sz l (j6 + 1) w' := by rw [← lit_endT]; exact p_want_yes endT (show ∀ n ∈ endT, n < 256 by decide) hb S7.out.st
                      clear hr hb
                      refine HX.mono ?_
                      rintro e X8 ⟨rfl, h2, h3⟩
                      have S8 := Lib.hid (S7.out.call h2 h3)
                      clear h2 h3 HX S7
                      go_wp2_with fail
                      have hr := HR.out
                      subst hr
                      go_ret
                      exact S8.out.reads
      · have hr := HR.out
        unfold nameAt at hr
        have hno : r = .no (i + 1) := by
          rw [← hr]
          cases htk : l[i + 1]? with
          | none => rfl
          | some tk => exact if_neg fun e => hnm ⟨tk, htk, e⟩
        subst hno
        have HX := p_name_no (fun t ht e => hnm ⟨t, ht, e⟩) S1.out.st
        refine HX.mono ?_
        rintro e w2 ⟨rfl, q2⟩
        exact ⟨rfl, rfl, S1.out.mv.trans (Mv.quiet q2)⟩
    · have hr1 : ((pL l f 1 (i + 1)).bind fun a j => want l j thenT ((pL l f 1 (j + 1)).bind fun b m => want l m elseT ((pL l f 1 (m + 1)).bind fun c q => want l q endT (.ok (.node k [] 0 [a, b, c]) (q + 1))))) = r := hrr
      have HR := Lib.hid hr1
      clear hrr hr1
      go_enter Tryz.func110, Tryz.ntmps110
      go_wp2_with fail
      go_quiet ((go_at_call 112; with_reducible exact quiet_callw (ONE.out _)))
      go_wp2_with (first
        | (go_at_call 78; refine (p_of k [] _ _ _ _).mono ?_; rintro e w4 ⟨rfl, rfl⟩))
      generalize hwq : World.alloc (World.setCell _ _ _) _ = X1
      have S1 : Hid (WS q (some ⟨b0, off, none⟩) c sz l W W.heap.size k [] [] (i + 1) X1 (.slice none 0 0)) := Lib.hid (by rw [← hwq]; exact SW.out _)
      clear hwq
      obtain ⟨g, hg⟩ : ∃ g, W.heap.size = g := ⟨_, rfl⟩
      rw [hg] at S1 ⊢
      have HG := Lib.hid hg
      clear hg f0 f1 f2 f3 f4 t1
      obtain ⟨r1, hp⟩ : ∃ r1, pL l f 1 (i + 1) = r1 := ⟨_, rfl⟩
      obtain ⟨y0, y1, c4, z1, z4, lg⟩ := S1.out.cells
      clear y0 y1 z1
      cases r1 with
      | out =>
        exfalso
        have hr := HR.out
        rw [hp] at hr
        exact HNE.out hr.symm
      | no j2 =>
        have hr := HR.out
        rw [hp] at hr
        have hr1 : PR.no j2 = r := hr
        subst hr1
        have HX := Lib.hid (HC.out (i + 1) (X1.drewN 1) (.no j2) (S1.out.quiet ⟨1, rfl⟩).st hp (by simp))
        clear hr hp
        refine wp_region_held_drew (S := fun w' => w'.cell? ⟨g, 4, none⟩ = some (.slice none 0 0)) (by kernel_rfl) c4 (fun hHeld => ?_)
        refine wpAnyH_take (i := 0) (v := ?_) rfl (by kernel_rfl) (by kernel_rfl) (by kernel_rfl) (fun _ _ _ h => h) (Or.inl ⟨by rfl, ?_⟩) (by assumption) ?_
        rotate_left
        · intro w hSw; (try dsimp only at hSw); go_simp; with_reducible rfl
        try simp only [Act.put, List.setIfInBounds_toArray, List.set_cons_zero, List.set_cons_succ]
        refine wpAnyH_take (i := 1) (v := ?_) rfl (by kernel_rfl) (by kernel_rfl) (by kernel_rfl) (fun _ _ _ h => h) (Or.inl ⟨by rfl, ?_⟩) (by assumption) ?_
        rotate_left
        · intro w hSw; (try dsimp only at hSw); go_simp; with_reducible rfl
        try simp only [Act.put, List.setIfInBounds_toArray, List.set_cons_zero, List.set_cons_succ]
        refine wpAnyH_take (i := 2) (v := ?_) rfl (by kernel_rfl) (by kernel_rfl) (by kernel_rfl) (fun _ _ _ h => h) (Or.inl ⟨by rfl, ?_⟩) (by assumption) ?_
        rotate_left
        · intro w hSw; (try dsimp only at hSw); go_simp; with_reducible rfl
        try simp only [Act.put, List.setIfInBounds_toArray, List.set_cons_zero, List.set_cons_succ]
        refine wpAnyH_take (i := 3) (v := ?_) rfl (by kernel_rfl) (by kernel_rfl) (by kernel_rfl) (fun _ _ _ h => h) (Or.inl ⟨by rfl, ?_⟩) (by assumption) ?_
        rotate_left
        · intro w hSw; (try dsimp only at hSw); go_simp; with_reducible rfl
        try simp only [Act.put, List.setIfInBounds_toArray, List.set_cons_zero, List.set_cons_succ]
        refine wpAnyH_take (i := 4) (v := ?_) rfl (by kernel_rfl) (by kernel_rfl) (by kernel_rfl) (fun _ _ _ h => h) (Or.inl ⟨by rfl, ?_⟩) (by assumption) ?_
        rotate_left
        · intro w hSw; (try dsimp only at hSw); go_simp; with_reducible rfl
        try simp only [Act.put, List.setIfInBounds_toArray, List.set_cons_zero, List.set_cons_succ]
        refine wpAnyH_take (i := 5) (v := ?_) rfl (by kernel_rfl) (by kernel_rfl) (by kernel_rfl) (fun _ _ _ h => h) (Or.inl ⟨by rfl, ?_⟩) (by assumption) ?_
        rotate_left
        · intro w hSw; (try dsimp only at hSw); go_simp; with_reducible rfl
        try simp only [Act.put, List.setIfInBounds_toArray, List.set_cons_zero, List.set_cons_succ]
        refine wpAnyH_ready (rs := [6]) (by kernel_rfl) (by simp) ?_
        refine AllReadyH.cons rfl (fun K hK => ?_) AllReadyH.nil
        go_simp
        go_wp2_with (first
          | (refine HX.out.mono ?_; rintro e w3 ⟨rfl, h1⟩; have M3 : Hid (Mv q W w3) := Lib.hid (S1.out.mv.trans ((Mv.quiet ⟨1, rfl⟩).trans h1)); clear h1))
        exact ⟨rfl, rfl, M3.out⟩
      | ok t1 j1 =>
        have hr := HR.out
        rw [hp] at hr
        simp only [PR.bind] at hr
        clear HR
        have HR := Lib.hid hr
        have HX := Lib.hid (HC.out (i + 1) (X1.drewN 1) (.ok t1 j1) (S1.out.quiet ⟨1, rfl⟩).st hp (by simp))
        obtain ⟨gs, hg1, hg2⟩ := S1.out.row
        have hgl := hg2.len
        have G1 := Lib.hid hg1
        have G2 := Lib.hid hg2
        have GL := Lib.hid hgl
        clear hr hp hg1 hg2 hgl
        refine' region_split (fun g1 w3 b cap w6 => WS q (some ⟨b0, off, none⟩) c sz l W g k [] [t1] j1 w6 (.slice (some ⟨b, 0, none⟩) 1 cap)) _ ?_ ?_
        rotate_left
        · intro key
          have KEY := Lib.hid key
          clear key
          go_region_law (first
            | (go_simp; go_at_call 33; refine HX.out.mono ?_; rintro e w3 h2; obtain ⟨g1, rfl, h3, h4, h5⟩ := h2.get; have c43 : w3.cell? ⟨g, 4, none⟩ = some (.slice none 0 0) := h4.cell (by have := S1.out.ql; have := S1.out.lo; show q < g; omega) c4; have lg3 := cell_lt c43; have T3 := Lib.hid h3; have M3 := Lib.hid h4; have P3 := Lib.hid h5; clear h2 h3 h4 h5)
            | (refine step_append_lies _ (by rfl) (.tmp 94) (.tmp 97) _ (by rfl) (g + 1) 74 jI (.pointer none) 1 8 Tryz.underlying105 I.out.1 I.out.2.1 I.out.2.2.1 I.out.2.2.2 rfl (by omega) (.slice none 0 0) 0 _ (by rfl) (S1.out.own4 G1.out ⟨1, rfl⟩ M3.out (.cells #[.pointer (some ⟨g1, 0, none⟩)] 74) 0 GL.out) ⟨w3.heap.size, 0, none⟩ 1 1 [.pointer (some ⟨g1, 0, none⟩)] (by rfl) (by rfl) (news1 w3 _ 74) (by simp [Value.oneCell']) (by omega) (by unfold maxLen; omega) (by omega) (by rw [World.size_alloc]; have : g < w3.heap.size := lg3; omega) (w3.heap.size + 1) (by rw [World.size_alloc]) ?_; intro b5 cap5 w5 hown hgrow hat hlt; have bx := S1.out.box5 ⟨1, rfl⟩ M3.out _ hgrow; have c45 : w5.cell? ⟨g, 4, none⟩ = some (.slice none 0 0) := bx.cell rfl; have z45 : w5.frozen? ⟨g, 4, none⟩ = false := bx.frozen 4; have A5 := Lib.hid (And.intro hown (And.intro hgrow hat)); clear hown hgrow hat hlt bx))
          all_goals exact KEY.out g1 w3 b5 cap5 _ (S1.out.push ⟨1, rfl⟩ M3.out T3.out P3.out G1.out G2.out GL.out rfl A5.out.1 A5.out.2.1 A5.out.2.2 rfl)
        · clear c4 z4 lg G1 G2 GL HX
          intro g1 w3 b1 cap1 X2 h2
          have S2 := Lib.hid h2
          clear h2 S1
          go_wp2_with fail
          obtain ⟨b, hb⟩ : ∃ b, isT l j1 thenT = b := ⟨_, rfl⟩
          cases b with
          | false =>
            have hr := HR.out
            rw [want_no hb] at hr
            subst hr
            have HX : Calls Tryz.prog 111 #[.pointer (some ⟨q, 0, none⟩), .string ⟨#[116, 104, 101, 110]⟩] X2 fun e w' => e = .panicked (thrownE (placeAt l sz j1)) ∧ Quiet X2 w' := by rw [← lit_thenT]; exact p_want_no thenT (show ∀ n ∈ thenT, n < 256 by decide) hb S2.out.st
            refine HX.mono ?_
            rintro e w2 ⟨rfl, q2⟩
            exact ⟨rfl, rfl, S2.out.mv.trans (Mv.quiet q2)⟩
          | true =>
            have hr := HR.out
            rw [want_yes hb] at hr
            clear HR
            have HR := Lib.hid hr
            have HX : Calls Tryz.prog 111 #[.pointer (some ⟨q, 0, none⟩), .string ⟨#[116, 104, 101, 110]⟩] X2 fun e w' => e = .returned (.tuple #[]) ∧ Mv q X2 w' ∧ PSt q (some ⟨b0, off, none⟩) c sz l (j1 + 1) w' := by rw [← lit_thenT]; exact p_want_yes thenT (show ∀ n ∈ thenT, n < 256 by decide) hb S2.out.st
            clear hr hb
            refine HX.mono ?_
            rintro e X3 ⟨rfl, h2, h3⟩
            have S3 := Lib.hid (S2.out.call h2 h3)
            clear h2 h3 HX S2
            go_wp2_with fail
            obtain ⟨r1, hp⟩ : ∃ r1, pL l f 1 (j1 + 1) = r1 := ⟨_, rfl⟩
            obtain ⟨y0, y1, c4, z1, z4, lg⟩ := S3.out.cells
            clear y0 y1 z1
            cases r1 with
            | out =>
              exfalso
              have hr := HR.out
              rw [hp] at hr
              exact HNE.out hr.symm
            | no j2 =>
              have hr := HR.out
              rw [hp] at hr
              have hr1 : PR.no j2 = r := hr
              subst hr1
              have HX := Lib.hid (HC.out (j1 + 1) (X3.drewN 1) (.no j2) (S3.out.quiet ⟨1, rfl⟩).st hp (by simp))
              clear hr hp
              refine wp_region_held_drew (S := fun w' => w'.cell? ⟨g, 4, none⟩ = some (.slice (some ⟨b1, 0, none⟩) 1 cap1)) (by kernel_rfl) c4 (fun hHeld => ?_)
              refine wpAnyH_take (i := 0) (v := ?_) rfl (by kernel_rfl) (by kernel_rfl) (by kernel_rfl) (fun _ _ _ h => h) (Or.inl ⟨by rfl, ?_⟩) (by assumption) ?_
              rotate_left
              · intro w hSw; (try dsimp only at hSw); go_simp; with_reducible rfl
              try simp only [Act.put, List.setIfInBounds_toArray, List.set_cons_zero, List.set_cons_succ]
              refine wpAnyH_take (i := 1) (v := ?_) rfl (by kernel_rfl) (by kernel_rfl) (by kernel_rfl) (fun _ _ _ h => h) (Or.inl ⟨by rfl, ?_⟩) (by assumption) ?_
              rotate_left
              · intro w hSw; (try dsimp only at hSw); go_simp; with_reducible rfl
              try simp only [Act.put, List.setIfInBounds_toArray, List.set_cons_zero, List.set_cons_succ]
              refine wpAnyH_take (i := 2) (v := ?_) rfl (by kernel_rfl) (by kernel_rfl) (by kernel_rfl) (fun _ _ _ h => h) (Or.inl ⟨by rfl, ?_⟩) (by assumption) ?_
              rotate_left
              · intro w hSw; (try dsimp only at hSw); go_simp; with_reducible rfl
              try simp only [Act.put, List.setIfInBounds_toArray, List.set_cons_zero, List.set_cons_succ]
              refine wpAnyH_take (i := 3) (v := ?_) rfl (by kernel_rfl) (by kernel_rfl) (by kernel_rfl) (fun _ _ _ h => h) (Or.inl ⟨by rfl, ?_⟩) (by assumption) ?_
              rotate_left
              · intro w hSw; (try dsimp only at hSw); go_simp; with_reducible rfl
              try simp only [Act.put, List.setIfInBounds_toArray, List.set_cons_zero, List.set_cons_succ]
              refine wpAnyH_take (i := 4) (v := ?_) rfl (by kernel_rfl) (by kernel_rfl) (by kernel_rfl) (fun _ _ _ h => h) (Or.inl ⟨by rfl, ?_⟩) (by assumption) ?_
              rotate_left
              · intro w hSw; (try dsimp only at hSw); go_simp; with_reducible rfl
              try simp only [Act.put, List.setIfInBounds_toArray, List.set_cons_zero, List.set_cons_succ]
              refine wpAnyH_take (i := 5) (v := ?_) rfl (by kernel_rfl) (by kernel_rfl) (by kernel_rfl) (fun _ _ _ h => h) (Or.inl ⟨by rfl, ?_⟩) (by assumption) ?_
              rotate_left
              · intro w hSw; (try dsimp only at hSw); go_simp; with_reducible rfl
              try simp only [Act.put, List.setIfInBounds_toArray, List.set_cons_zero, List.set_cons_succ]
              refine wpAnyH_ready (rs := [6]) (by kernel_rfl) (by simp) ?_
              refine AllReadyH.cons rfl (fun K hK => ?_) AllReadyH.nil
              go_simp
              go_wp2_with (first
                | (refine HX.out.mono ?_; rintro e w3 ⟨rfl, h1⟩; have M3 : Hid (Mv q W w3) := Lib.hid (S3.out.mv.trans ((Mv.quiet ⟨1, rfl⟩).trans h1)); clear h1))
              exact ⟨rfl, rfl, M3.out⟩
            | ok t3 j3 =>
              have hr := HR.out
              rw [hp] at hr
              simp only [PR.bind] at hr
              clear HR
              have HR := Lib.hid hr
              have HX := Lib.hid (HC.out (j1 + 1) (X3.drewN 1) (.ok t3 j3) (S3.out.quiet ⟨1, rfl⟩).st hp (by simp))
              obtain ⟨gs, hg1, hg2⟩ := S3.out.row
              have hgl := hg2.len
              have G1 := Lib.hid hg1
              have G2 := Lib.hid hg2
              have GL := Lib.hid hgl
              clear hr hp hg1 hg2 hgl
              refine' region_split (fun g1 w3 b cap w6 => WS q (some ⟨b0, off, none⟩) c sz l W g k [] [t1, t3] j3 w6 (.slice (some ⟨b, 0, none⟩) 2 cap)) _ ?_ ?_
              rotate_left
              · intro key
                have KEY := Lib.hid key
                clear key
                go_region_law (first
                  | (go_simp; go_at_call 33; refine HX.out.mono ?_; rintro e w3 h2; obtain ⟨g1, rfl, h3, h4, h5⟩ := h2.get; have c43 : w3.cell? ⟨g, 4, none⟩ = some (.slice (some ⟨b1, 0, none⟩) 1 cap1) := h4.cell (by have := S3.out.ql; have := S3.out.lo; show q < g; omega) c4; have lg3 := cell_lt c43; have T3 := Lib.hid h3; have M3 := Lib.hid h4; have P3 := Lib.hid h5; clear h2 h3 h4 h5)
                  | (refine step_append_lies _ (by rfl) (.tmp 107) (.tmp 110) _ (by rfl) (g + 1) 74 jI (.pointer none) 1 8 Tryz.underlying105 I.out.1 I.out.2.1 I.out.2.2.1 I.out.2.2.2 rfl (by omega) (.slice (some ⟨b1, 0, none⟩) 1 cap1) 1 _ (by rfl) (S3.out.own4 G1.out ⟨1, rfl⟩ M3.out (.cells #[.pointer (some ⟨g1, 0, none⟩)] 74) 1 GL.out) ⟨w3.heap.size, 0, none⟩ 1 1 [.pointer (some ⟨g1, 0, none⟩)] (by rfl) (by rfl) (news1 w3 _ 74) (by simp [Value.oneCell']) (by omega) (by unfold maxLen; omega) (by omega) (by rw [World.size_alloc]; have : g < w3.heap.size := lg3; omega) (w3.heap.size + 1) (by rw [World.size_alloc]) ?_; intro b5 cap5 w5 hown hgrow hat hlt; have bx := S3.out.box5 ⟨1, rfl⟩ M3.out _ hgrow; have c45 : w5.cell? ⟨g, 4, none⟩ = some (.slice (some ⟨b1, 0, none⟩) 1 cap1) := bx.cell rfl; have z45 : w5.frozen? ⟨g, 4, none⟩ = false := bx.frozen 4; have A5 := Lib.hid (And.intro hown (And.intro hgrow hat)); clear hown hgrow hat hlt bx))
                all_goals exact KEY.out g1 w3 b5 cap5 _ (S3.out.push ⟨1, rfl⟩ M3.out T3.out P3.out G1.out G2.out GL.out rfl A5.out.1 A5.out.2.1 A5.out.2.2 rfl)
              · clear c4 z4 lg G1 G2 GL HX
                intro g1 w3 b3 cap3 X4 h2
                have S4 := Lib.hid h2
                clear h2 S3
                go_wp2_with fail
                obtain ⟨b, hb⟩ : ∃ b, isT l j3 elseT = b := ⟨_, rfl⟩
                cases b with
                | false =>
                  have hr := HR.out
                  rw [want_no hb] at hr
                  subst hr
                  have HX : Calls Tryz.prog 111 #[.pointer (some ⟨q, 0, none⟩), .string ⟨#[101, 108, 115, 101]⟩] X4 fun e w' => e = .panicked (thrownE (placeAt l sz j3)) ∧ Quiet X4 w' := by rw [← lit_elseT]; exact p_want_no elseT (show ∀ n ∈ elseT, n < 256 by decide) hb S4.out.st
                  refine HX.mono ?_
                  rintro e w2 ⟨rfl, q2⟩
                  exact ⟨rfl, rfl, S4.out.mv.trans (Mv.quiet q2)⟩
                | true =>
                  have hr := HR.out
                  rw [want_yes hb] at hr
                  clear HR
                  have HR := Lib.hid hr
                  have HX : Calls Tryz.prog 111 #[.pointer (some ⟨q, 0, none⟩), .string ⟨#[101, 108, 115, 101]⟩] X4 fun e w' => e = .returned (.tuple #[]) ∧ Mv q X4 w' ∧ PSt q (some ⟨b0, off, none⟩) c sz l (j3 + 1) w' := by rw [← lit_elseT]; exact p_want_yes elseT (show ∀ n ∈ elseT, n < 256 by decide) hb S4.out.st
                  clear hr hb
                  refine HX.mono ?_
                  rintro e X5 ⟨rfl, h2, h3⟩
                  have S5 := Lib.hid (S4.out.call h2 h3)
                  clear h2 h3 HX S4
                  go_wp2_with fail
                  obtain ⟨r1, hp⟩ : ∃ r1, pL l f 1 (j3 + 1) = r1 := ⟨_, rfl⟩
                  obtain ⟨y0, y1, c4, z1, z4, lg⟩ := S5.out.cells
                  clear y0 y1 z1
                  cases r1 with
                  | out =>
                    exfalso
                    have hr := HR.out
                    rw [hp] at hr
                    exact HNE.out hr.symm
                  | no j2 =>
                    have hr := HR.out
                    rw [hp] at hr
                    have hr1 : PR.no j2 = r := hr
                    subst hr1
                    have HX := Lib.hid (HC.out (j3 + 1) (X5.drewN 1) (.no j2) (S5.out.quiet ⟨1, rfl⟩).st hp (by simp))
                    clear hr hp
                    refine wp_region_held_drew (S := fun w' => w'.cell? ⟨g, 4, none⟩ = some (.slice (some ⟨b3, 0, none⟩) 2 cap3)) (by kernel_rfl) c4 (fun hHeld => ?_)
                    refine wpAnyH_take (i := 0) (v := ?_) rfl (by kernel_rfl) (by kernel_rfl) (by kernel_rfl) (fun _ _ _ h => h) (Or.inl ⟨by rfl, ?_⟩) (by assumption) ?_
                    rotate_left
                    · intro w hSw; (try dsimp only at hSw); go_simp; with_reducible rfl
                    try simp only [Act.put, List.setIfInBounds_toArray, List.set_cons_zero, List.set_cons_succ]
                    refine wpAnyH_take (i := 1) (v := ?_) rfl (by kernel_rfl) (by kernel_rfl) (by kernel_rfl) (fun _ _ _ h => h) (Or.inl ⟨by rfl, ?_⟩) (by assumption) ?_
                    rotate_left
                    · intro w hSw; (try dsimp only at hSw); go_simp; with_reducible rfl
                    try simp only [Act.put, List.setIfInBounds_toArray, List.set_cons_zero, List.set_cons_succ]
                    refine wpAnyH_take (i := 2) (v := ?_) rfl (by kernel_rfl) (by kernel_rfl) (by kernel_rfl) (fun _ _ _ h => h) (Or.inl ⟨by rfl, ?_⟩) (by assumption) ?_
                    rotate_left
                    · intro w hSw; (try dsimp only at hSw); go_simp; with_reducible rfl
                    try simp only [Act.put, List.setIfInBounds_toArray, List.set_cons_zero, List.set_cons_succ]
                    refine wpAnyH_take (i := 3) (v := ?_) rfl (by kernel_rfl) (by kernel_rfl) (by kernel_rfl) (fun _ _ _ h => h) (Or.inl ⟨by rfl, ?_⟩) (by assumption) ?_
                    rotate_left
                    · intro w hSw; (try dsimp only at hSw); go_simp; with_reducible rfl
                    try simp only [Act.put, List.setIfInBounds_toArray, List.set_cons_zero, List.set_cons_succ]
                    refine wpAnyH_take (i := 4) (v := ?_) rfl (by kernel_rfl) (by kernel_rfl) (by kernel_rfl) (fun _ _ _ h => h) (Or.inl ⟨by rfl, ?_⟩) (by assumption) ?_
                    rotate_left
                    · intro w hSw; (try dsimp only at hSw); go_simp; with_reducible rfl
                    try simp only [Act.put, List.setIfInBounds_toArray, List.set_cons_zero, List.set_cons_succ]
                    refine wpAnyH_take (i := 5) (v := ?_) rfl (by kernel_rfl) (by kernel_rfl) (by kernel_rfl) (fun _ _ _ h => h) (Or.inl ⟨by rfl, ?_⟩) (by assumption) ?_
                    rotate_left
                    · intro w hSw; (try dsimp only at hSw); go_simp; with_reducible rfl
                    try simp only [Act.put, List.setIfInBounds_toArray, List.set_cons_zero, List.set_cons_succ]
                    refine wpAnyH_ready (rs := [6]) (by kernel_rfl) (by simp) ?_
                    refine AllReadyH.cons rfl (fun K hK => ?_) AllReadyH.nil
                    go_simp
                    go_wp2_with (first
                      | (refine HX.out.mono ?_; rintro e w3 ⟨rfl, h1⟩; have M3 : Hid (Mv q W w3) := Lib.hid (S5.out.mv.trans ((Mv.quiet ⟨1, rfl⟩).trans h1)); clear h1))
                    exact ⟨rfl, rfl, M3.out⟩
                  | ok t5 j5 =>
                    have hr := HR.out
                    rw [hp] at hr
                    simp only [PR.bind] at hr
                    clear HR
                    have HR := Lib.hid hr
                    have HX := Lib.hid (HC.out (j3 + 1) (X5.drewN 1) (.ok t5 j5) (S5.out.quiet ⟨1, rfl⟩).st hp (by simp))
                    obtain ⟨gs, hg1, hg2⟩ := S5.out.row
                    have hgl := hg2.len
                    have G1 := Lib.hid hg1
                    have G2 := Lib.hid hg2
                    have GL := Lib.hid hgl
                    clear hr hp hg1 hg2 hgl
                    refine' region_split (fun g1 w3 b cap w6 => WS q (some ⟨b0, off, none⟩) c sz l W g k [] [t1, t3, t5] j5 w6 (.slice (some ⟨b, 0, none⟩) 3 cap)) _ ?_ ?_
                    rotate_left
                    · intro key
                      have KEY := Lib.hid key
                      clear key
                      go_region_law (first
                        | (go_simp; go_at_call 33; refine HX.out.mono ?_; rintro e w3 h2; obtain ⟨g1, rfl, h3, h4, h5⟩ := h2.get; have c43 : w3.cell? ⟨g, 4, none⟩ = some (.slice (some ⟨b3, 0, none⟩) 2 cap3) := h4.cell (by have := S5.out.ql; have := S5.out.lo; show q < g; omega) c4; have lg3 := cell_lt c43; have T3 := Lib.hid h3; have M3 := Lib.hid h4; have P3 := Lib.hid h5; clear h2 h3 h4 h5)
                        | (refine step_append_lies _ (by rfl) (.tmp 120) (.tmp 123) _ (by rfl) (g + 1) 74 jI (.pointer none) 1 8 Tryz.underlying105 I.out.1 I.out.2.1 I.out.2.2.1 I.out.2.2.2 rfl (by omega) (.slice (some ⟨b3, 0, none⟩) 2 cap3) 2 _ (by rfl) (S5.out.own4 G1.out ⟨1, rfl⟩ M3.out (.cells #[.pointer (some ⟨g1, 0, none⟩)] 74) 2 GL.out) ⟨w3.heap.size, 0, none⟩ 1 1 [.pointer (some ⟨g1, 0, none⟩)] (by rfl) (by rfl) (news1 w3 _ 74) (by simp [Value.oneCell']) (by omega) (by unfold maxLen; omega) (by omega) (by rw [World.size_alloc]; have : g < w3.heap.size := lg3; omega) (w3.heap.size + 1) (by rw [World.size_alloc]) ?_; intro b5 cap5 w5 hown hgrow hat hlt; have bx := S5.out.box5 ⟨1, rfl⟩ M3.out _ hgrow; have c45 : w5.cell? ⟨g, 4, none⟩ = some (.slice (some ⟨b3, 0, none⟩) 2 cap3) := bx.cell rfl; have z45 : w5.frozen? ⟨g, 4, none⟩ = false := bx.frozen 4; have A5 := Lib.hid (And.intro hown (And.intro hgrow hat)); clear hown hgrow hat hlt bx))
                      all_goals exact KEY.out g1 w3 b5 cap5 _ (S5.out.push ⟨1, rfl⟩ M3.out T3.out P3.out G1.out G2.out GL.out rfl A5.out.1 A5.out.2.1 A5.out.2.2 rfl)
                    · clear c4 z4 lg G1 G2 GL HX
                      intro g1 w3 b5 cap5 X6 h2
                      have S6 := Lib.hid h2
                      clear h2 S5
                      go_wp2_with fail
                      obtain ⟨b, hb⟩ : ∃ b, isT l j5 endT = b := ⟨_, rfl⟩
                      cases b with
                      | false =>
                        have hr := HR.out
                        rw [want_no hb] at hr
                        subst hr
                        have HX : Calls Tryz.prog 111 #[.pointer (some ⟨q, 0, none⟩), .string ⟨#[101, 110, 100]⟩] X6 fun e w' => e = .panicked (thrownE (placeAt l sz j5)) ∧ Quiet X6 w' := by rw [← lit_endT]; exact p_want_no endT (show ∀ n ∈ endT, n < 256 by decide) hb S6.out.st
                        refine HX.mono ?_
                        rintro e w2 ⟨rfl, q2⟩
                        exact ⟨rfl, rfl, S6.out.mv.trans (Mv.quiet q2)⟩
                      | true =>
                        have hr := HR.out
                        rw [want_yes hb] at hr
                        clear HR
                        have HR := Lib.hid hr
                        have HX : Calls Tryz.prog 111 #[.pointer (some ⟨q, 0, none⟩), .string ⟨#[101, 110, 100]⟩] X6 fun e w' => e = .returned (.tuple #[]) ∧ Mv q X6 w' ∧ PSt q (some ⟨b0, off, none⟩) c sz l (j5 + 1) w' := by rw [← lit_endT]; exact p_want_yes endT (show ∀ n ∈ endT, n < 256 by decide) hb S6.out.st
                        clear hr hb
                        refine HX.mono ?_
                        rintro e X7 ⟨rfl, h2, h3⟩
                        have S7 := Lib.hid (S6.out.call h2 h3)
                        clear h2 h3 HX S6
                        go_wp2_with fail
                        have hr := HR.out
                        subst hr
                        go_ret
                        exact S7.out.reads
end
end Go.Proofs.YtidkbodmiegbkaaGreatDoor
namespace Go.Proofs.YtidkbodmiegbkaaGreatDoor
set_option linter.unusedSimpArgs false
set_option linter.unusedVariables false
open Go.RowKit
section
variable {q : Nat} {a : Option Addr} {c sz : Nat} {l : List Tok} {i : Nat} {W : World}
theorem Reads.leaf {X : World} {k j g : Nat} {s : List Nat} {v : Int} (hm : Mv q W X) (hp : PSt q a c sz l j X) (hg : g = X.heap.size) :
    Reads q a c sz l W (.ok (.node k s v []) j) (.returned (.pointer (some ⟨g, 0, none⟩))) (X.alloc (.cells #[.int .i64 (k : Int), .string (txt s), .int .i64 v, .slice none 0 0, .slice none 0 0] 107)) := by
  subst hg
  have hb := (Below.refl X.heap.size X).alloc (Nat.le_refl _) (.cells #[.int .i64 (k : Int), .string (txt s), .int .i64 v, .slice none 0 0, .slice none 0 0] 107)
  exact Reads.mk_ (node0 hm.low.size (Blk.new X 107 _)) (hm.trans (Mv.of_below hb (Nat.le_of_lt hp.box.lt))) (hp.keep hb)
theorem pP_none (f : Nat) (h : l[i]? = none) : pP l (f + 1) i = .no i := by rw [pP, h]
theorem pP_some (f : Nat) {t : Tok} (h : l[i]? = some t) : pP l (f + 1) i = if t.kind = 1 then .ok (.node 1 [] t.num []) (i + 1) else if t.kind = 2 then .ok (.node 2 t.text 0 []) (i + 1) else if t.kind = 3 then .ok (.node 7 t.text 0 []) (i + 1) else if t.kind = 5 then markR l f i t.text else wordR l f i t.text := by
  rw [pP, h, ← wordR_match]
  rfl
set_option maxRecDepth 100000 in
set_option maxHeartbeats 8000000 in
theorem p_prim (f : Nat) (HO : LevelC q a c sz l 33 (fun i => pL l f 1 i)) : LevelC q a c sz l 105 (fun i => pP l (f + 1) i) := by
  intro i W h hr
  simp only at hr ⊢
  have H := Lib.hid h
  have QL := Lib.hid h.box.lt
  obtain ⟨f0, f1, f2, f3, f4⟩ := h.facts
  obtain ⟨n, hn⟩ : ∃ n, l.length = n := ⟨_, rfl⟩
  have Hn := Lib.hid hn
  have hle := h.le
  have hfew := h.few
  rw [hn] at f0 hle hfew
  have n63 : n ≤ 9223372036854775807 := by omega
  have i5 : (i : Int) ≤ 5000 := by omega
  have i0 : (0 : Int) ≤ (i : Int) := Int.natCast_nonneg _
  by_cases hlt : i < n
  · obtain ⟨t, ht⟩ := get_some hn hlt
    have hg := h.good t (List.mem_iff_getElem?.2 ⟨i, ht⟩)
    rw [pP_some f ht] at hr ⊢
    obtain ⟨b0, off, rfl, t0, t1, t2, t3, hok⟩ := h.tok ht
    have HT := Lib.hid ht
    have ST := Lib.hid (fun X (hX : PSt q (some ⟨b0, off, none⟩) c sz l i X) (n : Nat) => hX.step (j := i + 1) (u := .int .i64 ((i : Int) + 1)) (by go_num) (by omega) n)
    have dlt : ((i : Int) == (n : Int)) = false := by simp; omega
    have ilt : (i : Int) < (n : Int) := by omega
    obtain ⟨⟨kd, tt, tn, tp⟩, htt⟩ : ∃ z, t = z := ⟨_, rfl⟩
    subst htt
    simp only at t0 t1 t2 t3 hr ⊢
    have HTG := Lib.hid hg
    clear hg hok h ht hn hfew hle
    by_cases hk1 : kd = 1
    · subst hk1
      simp only [if_true] at hr ⊢
      go_enter Tryz.func105, Tryz.ntmps105
      go_wp2_with fail
      go_quiet (fail)
      go_wp2_with fail
      generalize hwq : World.drewN W _ = W1
      have g0 : W1.cell? ⟨q, 0, none⟩ = some (.slice (some ⟨b0, off, none⟩) n c) := by rw [← hwq]; exact f0
      have g1 : W1.cell? ⟨q, 1, none⟩ = some (.int .i64 (i : Int)) := by rw [← hwq]; exact f1
      have u0 : W1.cell? ⟨b0, off + i * 4, none⟩ = some (.int .i64 1) := by rw [← hwq]; exact t0
      have u1 : W1.cell? ⟨b0, off + i * 4 + 1, none⟩ = some (.string (txt tt)) := by rw [← hwq]; exact t1
      have u2 : W1.cell? ⟨b0, off + i * 4 + 2, none⟩ = some (.int .i64 tn) := by rw [← hwq]; exact t2
      have u3 : W1.cell? ⟨b0, off + i * 4 + 3, none⟩ = some (.int .i64 tp) := by rw [← hwq]; exact t3
      have P1 : Hid (PSt q (some ⟨b0, off, none⟩) c sz l i W1) := Lib.hid (by rw [← hwq]; exact H.out.quiet ⟨_, rfl⟩)
      have M1 : Hid (Mv q W W1) := Lib.hid (by rw [← hwq]; exact Mv.quiet ⟨_, rfl⟩)
      clear hwq f0 f1 f2 f3 f4 t0 t1 t2 t3
      have n0 := World.new_ne W1 _ g0
      have n1 := World.new_ne W1 _ g1
      have n2 := World.new_ne W1 _ u0
      go_region_held3 (fun w' => w'.cell? ⟨q, 0, none⟩ = some (.slice (some ⟨b0, off, none⟩) n c) ∧ w'.cell? ⟨q, 1, none⟩ = some (.int .i64 (i : Int)) ∧ w'.cell? ⟨b0, off + i * 4, none⟩ = some (.int .i64 1) ∧ w'.cell? ⟨b0, off + i * 4 + 1, none⟩ = some (.string (txt tt)) ∧ w'.cell? ⟨b0, off + i * 4 + 2, none⟩ = some (.int .i64 tn) ∧ w'.cell? ⟨b0, off + i * 4 + 3, none⟩ = some (.int .i64 tp))
        (first | go_keep | fail)
        (first | fail)
      have bo := ((Below.refl W1.heap.size W1).alloc (Nat.le_refl _) (.cells #[.int .i64 1, .string (txt tt), .int .i64 tn, .int .i64 tp] 82)).drew
      have bk : Blk (W1.alloc (.cells #[.int .i64 1, .string (txt tt), .int .i64 tn, .int .i64 tp] 82)).drew W1.heap.size 82 #[.int .i64 1, .string (txt tt), .int .i64 tn, .int .i64 tp] := Blk.new W1 _ _
      have lq := P1.out.box.lt
      generalize hwq : World.drew (World.alloc _ _) = W2
      rw [hwq] at bo bk
      clear hwq
      obtain ⟨bt, hbt⟩ : ∃ z, W1.heap.size = z := ⟨_, rfl⟩
      have M2 : Hid (Mv q W W2) := Lib.hid (M1.out.trans (Mv.of_below bo (Nat.le_of_lt lq)))
      have P2 := Lib.hid (P1.out.keep bo)
      rw [hbt] at lq bk ⊢
      have v0 : W2.cell? ⟨bt, 0, none⟩ = some (.int .i64 1) := bk.cell rfl
      have v1 : W2.cell? ⟨bt, 1, none⟩ = some (.string (txt tt)) := bk.cell rfl
      have v2 : W2.cell? ⟨bt, 2, none⟩ = some (.int .i64 tn) := bk.cell rfl
      have lbt := bk.lt
      have hbq : ¬ bt = q := by omega
      have hbq2 : ¬ q = bt := by omega
      clear bo bk hbt n0 n1 n2 g0 g1 u0 u1 u2 u3
      obtain ⟨g0, g1, g2, g3, g4⟩ := P2.out.facts
      rw [Hn.out] at g0
      go_wp2_with fail
      go_ret
      have hse : W2.heap.size = (W2.setCell ⟨q, 1, none⟩ (.int .i64 ((i : Int) + 1))).heap.size := by rw [World.size_setCell]
      exact Reads.leaf (k := 1) (s := []) (v := tn) (M2.out.trans (Mv.set q W2 1 (.int .i64 ((i : Int) + 1)))) (P2.out.set (j := i + 1) (by go_num) (by rw [Hn.out]; omega)) hse
    by_cases hk2 : kd = 2
    · subst hk2
      simp only [if_neg hk1, if_true] at hr ⊢
      go_enter Tryz.func105, Tryz.ntmps105
      go_wp2_with fail
      go_quiet (fail)
      go_wp2_with fail
      generalize hwq : World.drewN W _ = W1
      have g0 : W1.cell? ⟨q, 0, none⟩ = some (.slice (some ⟨b0, off, none⟩) n c) := by rw [← hwq]; exact f0
      have g1 : W1.cell? ⟨q, 1, none⟩ = some (.int .i64 (i : Int)) := by rw [← hwq]; exact f1
      have u0 : W1.cell? ⟨b0, off + i * 4, none⟩ = some (.int .i64 2) := by rw [← hwq]; exact t0
      have u1 : W1.cell? ⟨b0, off + i * 4 + 1, none⟩ = some (.string (txt tt)) := by rw [← hwq]; exact t1
      have u2 : W1.cell? ⟨b0, off + i * 4 + 2, none⟩ = some (.int .i64 tn) := by rw [← hwq]; exact t2
      have u3 : W1.cell? ⟨b0, off + i * 4 + 3, none⟩ = some (.int .i64 tp) := by rw [← hwq]; exact t3
      have P1 : Hid (PSt q (some ⟨b0, off, none⟩) c sz l i W1) := Lib.hid (by rw [← hwq]; exact H.out.quiet ⟨_, rfl⟩)
      have M1 : Hid (Mv q W W1) := Lib.hid (by rw [← hwq]; exact Mv.quiet ⟨_, rfl⟩)
      clear hwq f0 f1 f2 f3 f4 t0 t1 t2 t3
      have n0 := World.new_ne W1 _ g0
      have n1 := World.new_ne W1 _ g1
      have n2 := World.new_ne W1 _ u0
      go_region_held3 (fun w' => w'.cell? ⟨q, 0, none⟩ = some (.slice (some ⟨b0, off, none⟩) n c) ∧ w'.cell? ⟨q, 1, none⟩ = some (.int .i64 (i : Int)) ∧ w'.cell? ⟨b0, off + i * 4, none⟩ = some (.int .i64 2) ∧ w'.cell? ⟨b0, off + i * 4 + 1, none⟩ = some (.string (txt tt)) ∧ w'.cell? ⟨b0, off + i * 4 + 2, none⟩ = some (.int .i64 tn) ∧ w'.cell? ⟨b0, off + i * 4 + 3, none⟩ = some (.int .i64 tp))
        (first | go_keep | fail)
        (first | fail)
      have bo := ((Below.refl W1.heap.size W1).alloc (Nat.le_refl _) (.cells #[.int .i64 2, .string (txt tt), .int .i64 tn, .int .i64 tp] 82)).drew
      have bk : Blk (W1.alloc (.cells #[.int .i64 2, .string (txt tt), .int .i64 tn, .int .i64 tp] 82)).drew W1.heap.size 82 #[.int .i64 2, .string (txt tt), .int .i64 tn, .int .i64 tp] := Blk.new W1 _ _
      have lq := P1.out.box.lt
      generalize hwq : World.drew (World.alloc _ _) = W2
      rw [hwq] at bo bk
      clear hwq
      obtain ⟨bt, hbt⟩ : ∃ z, W1.heap.size = z := ⟨_, rfl⟩
      have M2 : Hid (Mv q W W2) := Lib.hid (M1.out.trans (Mv.of_below bo (Nat.le_of_lt lq)))
      have P2 := Lib.hid (P1.out.keep bo)
      rw [hbt] at lq bk ⊢
      have v0 : W2.cell? ⟨bt, 0, none⟩ = some (.int .i64 2) := bk.cell rfl
      have v1 : W2.cell? ⟨bt, 1, none⟩ = some (.string (txt tt)) := bk.cell rfl
      have v2 : W2.cell? ⟨bt, 2, none⟩ = some (.int .i64 tn) := bk.cell rfl
      have lbt := bk.lt
      have hbq : ¬ bt = q := by omega
      have hbq2 : ¬ q = bt := by omega
      clear bo bk hbt n0 n1 n2 g0 g1 u0 u1 u2 u3
      obtain ⟨g0, g1, g2, g3, g4⟩ := P2.out.facts
      rw [Hn.out] at g0
      go_wp2_with (first
        | (go_at_call 78; refine (p_of 2 tt _ _ _ _).mono ?_; rintro e w4 ⟨rfl, rfl⟩))
      go_ret
      have hse : W2.heap.size = (W2.setCell ⟨q, 1, none⟩ (.int .i64 ((i : Int) + 1))).heap.size := by rw [World.size_setCell]
      exact Reads.leaf (k := 2) (s := tt) (v := 0) (M2.out.trans (Mv.set q W2 1 (.int .i64 ((i : Int) + 1)))) (P2.out.set (j := i + 1) (by go_num) (by rw [Hn.out]; omega)) hse
    by_cases hk3 : kd = 3
    · subst hk3
      simp only [if_neg hk1, if_neg hk2, if_true] at hr ⊢
      go_enter Tryz.func105, Tryz.ntmps105
      go_wp2_with fail
      go_quiet (fail)
      go_wp2_with fail
      generalize hwq : World.drewN W _ = W1
      have g0 : W1.cell? ⟨q, 0, none⟩ = some (.slice (some ⟨b0, off, none⟩) n c) := by rw [← hwq]; exact f0
      have g1 : W1.cell? ⟨q, 1, none⟩ = some (.int .i64 (i : Int)) := by rw [← hwq]; exact f1
      have u0 : W1.cell? ⟨b0, off + i * 4, none⟩ = some (.int .i64 3) := by rw [← hwq]; exact t0
      have u1 : W1.cell? ⟨b0, off + i * 4 + 1, none⟩ = some (.string (txt tt)) := by rw [← hwq]; exact t1
      have u2 : W1.cell? ⟨b0, off + i * 4 + 2, none⟩ = some (.int .i64 tn) := by rw [← hwq]; exact t2
      have u3 : W1.cell? ⟨b0, off + i * 4 + 3, none⟩ = some (.int .i64 tp) := by rw [← hwq]; exact t3
      have P1 : Hid (PSt q (some ⟨b0, off, none⟩) c sz l i W1) := Lib.hid (by rw [← hwq]; exact H.out.quiet ⟨_, rfl⟩)
      have M1 : Hid (Mv q W W1) := Lib.hid (by rw [← hwq]; exact Mv.quiet ⟨_, rfl⟩)
      clear hwq f0 f1 f2 f3 f4 t0 t1 t2 t3
      have n0 := World.new_ne W1 _ g0
      have n1 := World.new_ne W1 _ g1
      have n2 := World.new_ne W1 _ u0
      go_region_held3 (fun w' => w'.cell? ⟨q, 0, none⟩ = some (.slice (some ⟨b0, off, none⟩) n c) ∧ w'.cell? ⟨q, 1, none⟩ = some (.int .i64 (i : Int)) ∧ w'.cell? ⟨b0, off + i * 4, none⟩ = some (.int .i64 3) ∧ w'.cell? ⟨b0, off + i * 4 + 1, none⟩ = some (.string (txt tt)) ∧ w'.cell? ⟨b0, off + i * 4 + 2, none⟩ = some (.int .i64 tn) ∧ w'.cell? ⟨b0, off + i * 4 + 3, none⟩ = some (.int .i64 tp))
        (first | go_keep | fail)
        (first | fail)
      have bo := ((Below.refl W1.heap.size W1).alloc (Nat.le_refl _) (.cells #[.int .i64 3, .string (txt tt), .int .i64 tn, .int .i64 tp] 82)).drew
      have bk : Blk (W1.alloc (.cells #[.int .i64 3, .string (txt tt), .int .i64 tn, .int .i64 tp] 82)).drew W1.heap.size 82 #[.int .i64 3, .string (txt tt), .int .i64 tn, .int .i64 tp] := Blk.new W1 _ _
      have lq := P1.out.box.lt
      generalize hwq : World.drew (World.alloc _ _) = W2
      rw [hwq] at bo bk
      clear hwq
      obtain ⟨bt, hbt⟩ : ∃ z, W1.heap.size = z := ⟨_, rfl⟩
      have M2 : Hid (Mv q W W2) := Lib.hid (M1.out.trans (Mv.of_below bo (Nat.le_of_lt lq)))
      have P2 := Lib.hid (P1.out.keep bo)
      rw [hbt] at lq bk ⊢
      have v0 : W2.cell? ⟨bt, 0, none⟩ = some (.int .i64 3) := bk.cell rfl
      have v1 : W2.cell? ⟨bt, 1, none⟩ = some (.string (txt tt)) := bk.cell rfl
      have v2 : W2.cell? ⟨bt, 2, none⟩ = some (.int .i64 tn) := bk.cell rfl
      have lbt := bk.lt
      have hbq : ¬ bt = q := by omega
      have hbq2 : ¬ q = bt := by omega
      clear bo bk hbt n0 n1 n2 g0 g1 u0 u1 u2 u3
      obtain ⟨g0, g1, g2, g3, g4⟩ := P2.out.facts
      rw [Hn.out] at g0
      go_wp2_with (first
        | (go_at_call 78; refine (p_of 7 tt _ _ _ _).mono ?_; rintro e w4 ⟨rfl, rfl⟩))
      go_ret
      have hse : W2.heap.size = (W2.setCell ⟨q, 1, none⟩ (.int .i64 ((i : Int) + 1))).heap.size := by rw [World.size_setCell]
      exact Reads.leaf (k := 7) (s := tt) (v := 0) (M2.out.trans (Mv.set q W2 1 (.int .i64 ((i : Int) + 1)))) (P2.out.set (j := i + 1) (by go_num) (by rw [Hn.out]; omega)) hse
    by_cases hk5 : kd = 5
    · subst hk5
      simp only [if_neg hk1, if_neg hk2, if_neg hk3, if_true] at hr ⊢
      obtain ⟨r, hrr⟩ : ∃ r, markR l f i tt = r := ⟨_, rfl⟩
      have hr0 := hr
      have HX : Hid (∀ X, PSt q (some ⟨b0, off, none⟩) c sz l i X → Calls Tryz.prog 109 #[.pointer (some ⟨q, 0, none⟩)] X (Reads q (some ⟨b0, off, none⟩) c sz l X r)) := Lib.hid (fun X hX => by rw [← hrr]; exact p_mark HT.out rfl f HO hX hr)
      rw [hrr] at hr ⊢
      clear hk1 hk2 hk3
      clear hrr HO hr0
      cases r with
      | out => exact absurd rfl hr
      | no j =>
        clear hr
        go_enter Tryz.func105, Tryz.ntmps105
        go_wp2_with fail
        go_quiet (fail)
        go_wp2_with fail
        generalize hwq : World.drewN W _ = W1
        have g0 : W1.cell? ⟨q, 0, none⟩ = some (.slice (some ⟨b0, off, none⟩) n c) := by rw [← hwq]; exact f0
        have g1 : W1.cell? ⟨q, 1, none⟩ = some (.int .i64 (i : Int)) := by rw [← hwq]; exact f1
        have u0 : W1.cell? ⟨b0, off + i * 4, none⟩ = some (.int .i64 5) := by rw [← hwq]; exact t0
        have u1 : W1.cell? ⟨b0, off + i * 4 + 1, none⟩ = some (.string (txt tt)) := by rw [← hwq]; exact t1
        have u2 : W1.cell? ⟨b0, off + i * 4 + 2, none⟩ = some (.int .i64 tn) := by rw [← hwq]; exact t2
        have u3 : W1.cell? ⟨b0, off + i * 4 + 3, none⟩ = some (.int .i64 tp) := by rw [← hwq]; exact t3
        have P1 : Hid (PSt q (some ⟨b0, off, none⟩) c sz l i W1) := Lib.hid (by rw [← hwq]; exact H.out.quiet ⟨_, rfl⟩)
        have M1 : Hid (Mv q W W1) := Lib.hid (by rw [← hwq]; exact Mv.quiet ⟨_, rfl⟩)
        clear hwq f0 f1 f2 f3 f4 t0 t1 t2 t3
        have n0 := World.new_ne W1 _ g0
        have n1 := World.new_ne W1 _ g1
        have n2 := World.new_ne W1 _ u0
        go_region_held3 (fun w' => w'.cell? ⟨q, 0, none⟩ = some (.slice (some ⟨b0, off, none⟩) n c) ∧ w'.cell? ⟨q, 1, none⟩ = some (.int .i64 (i : Int)) ∧ w'.cell? ⟨b0, off + i * 4, none⟩ = some (.int .i64 5) ∧ w'.cell? ⟨b0, off + i * 4 + 1, none⟩ = some (.string (txt tt)) ∧ w'.cell? ⟨b0, off + i * 4 + 2, none⟩ = some (.int .i64 tn) ∧ w'.cell? ⟨b0, off + i * 4 + 3, none⟩ = some (.int .i64 tp))
          (first | go_keep | fail)
          (first | fail)
        have bo := ((Below.refl W1.heap.size W1).alloc (Nat.le_refl _) (.cells #[.int .i64 5, .string (txt tt), .int .i64 tn, .int .i64 tp] 82)).drew
        have bk : Blk (W1.alloc (.cells #[.int .i64 5, .string (txt tt), .int .i64 tn, .int .i64 tp] 82)).drew W1.heap.size 82 #[.int .i64 5, .string (txt tt), .int .i64 tn, .int .i64 tp] := Blk.new W1 _ _
        have lq := P1.out.box.lt
        generalize hwq : World.drew (World.alloc _ _) = W2
        rw [hwq] at bo bk
        clear hwq
        obtain ⟨bt, hbt⟩ : ∃ z, W1.heap.size = z := ⟨_, rfl⟩
        have M2 : Hid (Mv q W W2) := Lib.hid (M1.out.trans (Mv.of_below bo (Nat.le_of_lt lq)))
        have P2 := Lib.hid (P1.out.keep bo)
        rw [hbt] at lq bk ⊢
        have v0 : W2.cell? ⟨bt, 0, none⟩ = some (.int .i64 5) := bk.cell rfl
        have v1 : W2.cell? ⟨bt, 1, none⟩ = some (.string (txt tt)) := bk.cell rfl
        have v2 : W2.cell? ⟨bt, 2, none⟩ = some (.int .i64 tn) := bk.cell rfl
        have lbt := bk.lt
        have hbq : ¬ bt = q := by omega
        have hbq2 : ¬ q = bt := by omega
        clear bo bk hbt n0 n1 n2 g0 g1 u0 u1 u2 u3
        obtain ⟨g0, g1, g2, g3, g4⟩ := P2.out.facts
        rw [Hn.out] at g0
        go_wp2_with (first
          | (go_at_call 109; refine (HX.out _ P2.out).mono ?_; rintro e w4 ⟨rfl, h1⟩; have M4 := Lib.hid h1; clear h1))
        exact ⟨rfl, rfl, M2.out.trans M4.out⟩
      | ok t j =>
        clear hr
        go_enter Tryz.func105, Tryz.ntmps105
        go_wp2_with fail
        go_quiet (fail)
        go_wp2_with fail
        generalize hwq : World.drewN W _ = W1
        have g0 : W1.cell? ⟨q, 0, none⟩ = some (.slice (some ⟨b0, off, none⟩) n c) := by rw [← hwq]; exact f0
        have g1 : W1.cell? ⟨q, 1, none⟩ = some (.int .i64 (i : Int)) := by rw [← hwq]; exact f1
        have u0 : W1.cell? ⟨b0, off + i * 4, none⟩ = some (.int .i64 5) := by rw [← hwq]; exact t0
        have u1 : W1.cell? ⟨b0, off + i * 4 + 1, none⟩ = some (.string (txt tt)) := by rw [← hwq]; exact t1
        have u2 : W1.cell? ⟨b0, off + i * 4 + 2, none⟩ = some (.int .i64 tn) := by rw [← hwq]; exact t2
        have u3 : W1.cell? ⟨b0, off + i * 4 + 3, none⟩ = some (.int .i64 tp) := by rw [← hwq]; exact t3
        have P1 : Hid (PSt q (some ⟨b0, off, none⟩) c sz l i W1) := Lib.hid (by rw [← hwq]; exact H.out.quiet ⟨_, rfl⟩)
        have M1 : Hid (Mv q W W1) := Lib.hid (by rw [← hwq]; exact Mv.quiet ⟨_, rfl⟩)
        clear hwq f0 f1 f2 f3 f4 t0 t1 t2 t3
        have n0 := World.new_ne W1 _ g0
        have n1 := World.new_ne W1 _ g1
        have n2 := World.new_ne W1 _ u0
        go_region_held3 (fun w' => w'.cell? ⟨q, 0, none⟩ = some (.slice (some ⟨b0, off, none⟩) n c) ∧ w'.cell? ⟨q, 1, none⟩ = some (.int .i64 (i : Int)) ∧ w'.cell? ⟨b0, off + i * 4, none⟩ = some (.int .i64 5) ∧ w'.cell? ⟨b0, off + i * 4 + 1, none⟩ = some (.string (txt tt)) ∧ w'.cell? ⟨b0, off + i * 4 + 2, none⟩ = some (.int .i64 tn) ∧ w'.cell? ⟨b0, off + i * 4 + 3, none⟩ = some (.int .i64 tp))
          (first | go_keep | fail)
          (first | fail)
        have bo := ((Below.refl W1.heap.size W1).alloc (Nat.le_refl _) (.cells #[.int .i64 5, .string (txt tt), .int .i64 tn, .int .i64 tp] 82)).drew
        have bk : Blk (W1.alloc (.cells #[.int .i64 5, .string (txt tt), .int .i64 tn, .int .i64 tp] 82)).drew W1.heap.size 82 #[.int .i64 5, .string (txt tt), .int .i64 tn, .int .i64 tp] := Blk.new W1 _ _
        have lq := P1.out.box.lt
        generalize hwq : World.drew (World.alloc _ _) = W2
        rw [hwq] at bo bk
        clear hwq
        obtain ⟨bt, hbt⟩ : ∃ z, W1.heap.size = z := ⟨_, rfl⟩
        have M2 : Hid (Mv q W W2) := Lib.hid (M1.out.trans (Mv.of_below bo (Nat.le_of_lt lq)))
        have P2 := Lib.hid (P1.out.keep bo)
        rw [hbt] at lq bk ⊢
        have v0 : W2.cell? ⟨bt, 0, none⟩ = some (.int .i64 5) := bk.cell rfl
        have v1 : W2.cell? ⟨bt, 1, none⟩ = some (.string (txt tt)) := bk.cell rfl
        have v2 : W2.cell? ⟨bt, 2, none⟩ = some (.int .i64 tn) := bk.cell rfl
        have lbt := bk.lt
        have hbq : ¬ bt = q := by omega
        have hbq2 : ¬ q = bt := by omega
        clear bo bk hbt n0 n1 n2 g0 g1 u0 u1 u2 u3
        obtain ⟨g0, g1, g2, g3, g4⟩ := P2.out.facts
        rw [Hn.out] at g0
        go_wp2_with (first
          | (go_at_call 109; refine (HX.out _ P2.out).mono ?_; rintro e w4 h1; obtain ⟨g9, rfl, h3, h4, h5⟩ := h1.get; have M4 := Lib.hid (And.intro h3 (And.intro h4 h5)); clear h1 h3 h4 h5))
        go_ret
        exact (Reads.mk_ M4.out.1 M4.out.2.1 M4.out.2.2).back M2.out
    · have h0 : (kd = 1 ∧ 0 ≤ tn) ∨ kd = 2 ∨ kd = 3 ∨ (kd = 4 ∧ tt ∈ wordsL) ∨ (kd = 5 ∧ tt ∈ marksL) := HTG.out
      have h1 : kd = 4 ∧ tt ∈ wordsL := by
        rcases h0 with h | h | h | h | h
        · exact absurd h.1 hk1
        · exact absurd h hk2
        · exact absurd h hk3
        · exact h
        · exact absurd h.1 hk5
      obtain ⟨hk4, hwd⟩ := h1
      clear h0
      subst hk4
      simp only [if_neg hk1, if_neg hk2, if_neg hk3, if_neg hk5] at hr ⊢
      obtain ⟨r, hrr⟩ : ∃ r, wordR l f i tt = r := ⟨_, rfl⟩
      have hr0 := hr
      have HX : Hid (∀ X, PSt q (some ⟨b0, off, none⟩) c sz l i X → Calls Tryz.prog 110 #[.pointer (some ⟨q, 0, none⟩)] X (Reads q (some ⟨b0, off, none⟩) c sz l X r)) := Lib.hid (fun X hX => by rw [← hrr]; exact p_word HT.out hwd f HO hX hr)
      rw [hrr] at hr ⊢
      clear hk1 hk2 hk3 hk5 hwd
      clear hrr HO hr0
      cases r with
      | out => exact absurd rfl hr
      | no j =>
        clear hr
        go_enter Tryz.func105, Tryz.ntmps105
        go_wp2_with fail
        go_quiet (fail)
        go_wp2_with fail
        generalize hwq : World.drewN W _ = W1
        have g0 : W1.cell? ⟨q, 0, none⟩ = some (.slice (some ⟨b0, off, none⟩) n c) := by rw [← hwq]; exact f0
        have g1 : W1.cell? ⟨q, 1, none⟩ = some (.int .i64 (i : Int)) := by rw [← hwq]; exact f1
        have u0 : W1.cell? ⟨b0, off + i * 4, none⟩ = some (.int .i64 4) := by rw [← hwq]; exact t0
        have u1 : W1.cell? ⟨b0, off + i * 4 + 1, none⟩ = some (.string (txt tt)) := by rw [← hwq]; exact t1
        have u2 : W1.cell? ⟨b0, off + i * 4 + 2, none⟩ = some (.int .i64 tn) := by rw [← hwq]; exact t2
        have u3 : W1.cell? ⟨b0, off + i * 4 + 3, none⟩ = some (.int .i64 tp) := by rw [← hwq]; exact t3
        have P1 : Hid (PSt q (some ⟨b0, off, none⟩) c sz l i W1) := Lib.hid (by rw [← hwq]; exact H.out.quiet ⟨_, rfl⟩)
        have M1 : Hid (Mv q W W1) := Lib.hid (by rw [← hwq]; exact Mv.quiet ⟨_, rfl⟩)
        clear hwq f0 f1 f2 f3 f4 t0 t1 t2 t3
        have n0 := World.new_ne W1 _ g0
        have n1 := World.new_ne W1 _ g1
        have n2 := World.new_ne W1 _ u0
        go_region_held3 (fun w' => w'.cell? ⟨q, 0, none⟩ = some (.slice (some ⟨b0, off, none⟩) n c) ∧ w'.cell? ⟨q, 1, none⟩ = some (.int .i64 (i : Int)) ∧ w'.cell? ⟨b0, off + i * 4, none⟩ = some (.int .i64 4) ∧ w'.cell? ⟨b0, off + i * 4 + 1, none⟩ = some (.string (txt tt)) ∧ w'.cell? ⟨b0, off + i * 4 + 2, none⟩ = some (.int .i64 tn) ∧ w'.cell? ⟨b0, off + i * 4 + 3, none⟩ = some (.int .i64 tp))
          (first | go_keep | fail)
          (first | fail)
        have bo := ((Below.refl W1.heap.size W1).alloc (Nat.le_refl _) (.cells #[.int .i64 4, .string (txt tt), .int .i64 tn, .int .i64 tp] 82)).drew
        have bk : Blk (W1.alloc (.cells #[.int .i64 4, .string (txt tt), .int .i64 tn, .int .i64 tp] 82)).drew W1.heap.size 82 #[.int .i64 4, .string (txt tt), .int .i64 tn, .int .i64 tp] := Blk.new W1 _ _
        have lq := P1.out.box.lt
        generalize hwq : World.drew (World.alloc _ _) = W2
        rw [hwq] at bo bk
        clear hwq
        obtain ⟨bt, hbt⟩ : ∃ z, W1.heap.size = z := ⟨_, rfl⟩
        have M2 : Hid (Mv q W W2) := Lib.hid (M1.out.trans (Mv.of_below bo (Nat.le_of_lt lq)))
        have P2 := Lib.hid (P1.out.keep bo)
        rw [hbt] at lq bk ⊢
        have v0 : W2.cell? ⟨bt, 0, none⟩ = some (.int .i64 4) := bk.cell rfl
        have v1 : W2.cell? ⟨bt, 1, none⟩ = some (.string (txt tt)) := bk.cell rfl
        have v2 : W2.cell? ⟨bt, 2, none⟩ = some (.int .i64 tn) := bk.cell rfl
        have lbt := bk.lt
        have hbq : ¬ bt = q := by omega
        have hbq2 : ¬ q = bt := by omega
        clear bo bk hbt n0 n1 n2 g0 g1 u0 u1 u2 u3
        obtain ⟨g0, g1, g2, g3, g4⟩ := P2.out.facts
        rw [Hn.out] at g0
        go_wp2_with (first
          | (go_at_call 110; refine (HX.out _ P2.out).mono ?_; rintro e w4 ⟨rfl, h1⟩; have M4 := Lib.hid h1; clear h1))
        exact ⟨rfl, rfl, M2.out.trans M4.out⟩
      | ok t j =>
        clear hr
        go_enter Tryz.func105, Tryz.ntmps105
        go_wp2_with fail
        go_quiet (fail)
        go_wp2_with fail
        generalize hwq : World.drewN W _ = W1
        have g0 : W1.cell? ⟨q, 0, none⟩ = some (.slice (some ⟨b0, off, none⟩) n c) := by rw [← hwq]; exact f0
        have g1 : W1.cell? ⟨q, 1, none⟩ = some (.int .i64 (i : Int)) := by rw [← hwq]; exact f1
        have u0 : W1.cell? ⟨b0, off + i * 4, none⟩ = some (.int .i64 4) := by rw [← hwq]; exact t0
        have u1 : W1.cell? ⟨b0, off + i * 4 + 1, none⟩ = some (.string (txt tt)) := by rw [← hwq]; exact t1
        have u2 : W1.cell? ⟨b0, off + i * 4 + 2, none⟩ = some (.int .i64 tn) := by rw [← hwq]; exact t2
        have u3 : W1.cell? ⟨b0, off + i * 4 + 3, none⟩ = some (.int .i64 tp) := by rw [← hwq]; exact t3
        have P1 : Hid (PSt q (some ⟨b0, off, none⟩) c sz l i W1) := Lib.hid (by rw [← hwq]; exact H.out.quiet ⟨_, rfl⟩)
        have M1 : Hid (Mv q W W1) := Lib.hid (by rw [← hwq]; exact Mv.quiet ⟨_, rfl⟩)
        clear hwq f0 f1 f2 f3 f4 t0 t1 t2 t3
        have n0 := World.new_ne W1 _ g0
        have n1 := World.new_ne W1 _ g1
        have n2 := World.new_ne W1 _ u0
        go_region_held3 (fun w' => w'.cell? ⟨q, 0, none⟩ = some (.slice (some ⟨b0, off, none⟩) n c) ∧ w'.cell? ⟨q, 1, none⟩ = some (.int .i64 (i : Int)) ∧ w'.cell? ⟨b0, off + i * 4, none⟩ = some (.int .i64 4) ∧ w'.cell? ⟨b0, off + i * 4 + 1, none⟩ = some (.string (txt tt)) ∧ w'.cell? ⟨b0, off + i * 4 + 2, none⟩ = some (.int .i64 tn) ∧ w'.cell? ⟨b0, off + i * 4 + 3, none⟩ = some (.int .i64 tp))
          (first | go_keep | fail)
          (first | fail)
        have bo := ((Below.refl W1.heap.size W1).alloc (Nat.le_refl _) (.cells #[.int .i64 4, .string (txt tt), .int .i64 tn, .int .i64 tp] 82)).drew
        have bk : Blk (W1.alloc (.cells #[.int .i64 4, .string (txt tt), .int .i64 tn, .int .i64 tp] 82)).drew W1.heap.size 82 #[.int .i64 4, .string (txt tt), .int .i64 tn, .int .i64 tp] := Blk.new W1 _ _
        have lq := P1.out.box.lt
        generalize hwq : World.drew (World.alloc _ _) = W2
        rw [hwq] at bo bk
        clear hwq
        obtain ⟨bt, hbt⟩ : ∃ z, W1.heap.size = z := ⟨_, rfl⟩
        have M2 : Hid (Mv q W W2) := Lib.hid (M1.out.trans (Mv.of_below bo (Nat.le_of_lt lq)))
        have P2 := Lib.hid (P1.out.keep bo)
        rw [hbt] at lq bk ⊢
        have v0 : W2.cell? ⟨bt, 0, none⟩ = some (.int .i64 4) := bk.cell rfl
        have v1 : W2.cell? ⟨bt, 1, none⟩ = some (.string (txt tt)) := bk.cell rfl
        have v2 : W2.cell? ⟨bt, 2, none⟩ = some (.int .i64 tn) := bk.cell rfl
        have lbt := bk.lt
        have hbq : ¬ bt = q := by omega
        have hbq2 : ¬ q = bt := by omega
        clear bo bk hbt n0 n1 n2 g0 g1 u0 u1 u2 u3
        obtain ⟨g0, g1, g2, g3, g4⟩ := P2.out.facts
        rw [Hn.out] at g0
        go_wp2_with (first
          | (go_at_call 110; refine (HX.out _ P2.out).mono ?_; rintro e w4 h1; obtain ⟨g9, rfl, h3, h4, h5⟩ := h1.get; have M4 := Lib.hid (And.intro h3 (And.intro h4 h5)); clear h1 h3 h4 h5))
        go_ret
        exact (Reads.mk_ M4.out.1 M4.out.2.1 M4.out.2.2).back M2.out
  · have hnone : l[i]? = none := List.getElem?_eq_none (by omega)
    rw [pP_none f hnone] at hr ⊢
    obtain rfl : i = n := by omega
    have dlt : ((i : Int) == (i : Int)) = true := by simp
    clear h hn hr hnone hlt HO
    go_enter Tryz.func105, Tryz.ntmps105
    go_wp2_with fail
    go_quiet (fail)
    go_wp2_with (first
      | (go_at_call 34; (refine (p_give (H.out.quiet ⟨_, rfl⟩)).mono ?_); rintro e w2 ⟨rfl, q2⟩; have Q2 := Lib.hid q2; clear q2))
    exact ⟨rfl, rfl, (Mv.quiet ⟨_, rfl⟩).trans (Mv.quiet Q2.out)⟩
end
end Go.Proofs.YtidkbodmiegbkaaGreatDoor
namespace Go.Proofs.YtidkbodmiegbkaaGreatDoor
set_option linter.unusedSimpArgs false
set_option linter.unusedVariables false
open Go.RowKit
section
variable {q : Nat} {a : Option Addr} {c sz : Nat} {l : List Tok} {i : Nat} {W : World}
theorem pL_row (l : List Tok) (f n i : Nat) (h3 : n ≠ 3) (h7 : n ≠ 7) : pL l (f + 1) n i = rowR l f n i := by
  rw [pL, if_neg h3, if_neg h7]
  rfl
set_option maxRecDepth 100000 in
set_option maxHeartbeats 4000000 in
theorem p_or (f : Nat) (HB : ∀ f', f' ≤ f → LevelC q a c sz l 61 (fun i => pL l f' 2 i)) : LevelC q a c sz l 33 (fun i => pL l (f + 1) 1 i) := by
  intro i W h hr
  have hr0 : pL l (f + 1) 1 i = rowR l f 1 i := pL_row l f 1 i (by omega) (by omega)
  simp only at hr ⊢
  rw [hr0] at hr ⊢
  have HX : Hid (Calls Tryz.prog 60 #[.pointer (some ⟨q, 0, none⟩), .int .i64 1, .func (.func 61) #[.pointer (some ⟨q, 0, none⟩)] #[], .bool false] W (Reads q a c sz l W (rowR l f 1 i))) := Lib.hid (p_row 1 f 61 false (by decide) (fun _ _ => rfl) HB h hr)
  have hmf : ∀ (fn : Fn) (first cap : Array Value) (w : World), (Instr.makeFunc fn first cap).run Tryz.prog w = .ok (.func fn first cap) w := fun _ _ _ _ => rfl
  obtain ⟨r, hrr⟩ : ∃ r, rowR l f 1 i = r := ⟨_, rfl⟩
  rw [hrr] at hr HX ⊢
  clear hr0 HB h hrr
  cases r with
  | out => exact absurd rfl hr
  | no j =>
    clear hr
    go_enter Tryz.func33, Tryz.ntmps33
    go_wp2_with (first
      | (go_at_call 60; refine HX.out.mono ?_; rintro e w1 ⟨rfl, h1⟩; have M1 := Lib.hid h1; clear h1))
    exact ⟨rfl, rfl, M1.out⟩
  | ok t j =>
    clear hr
    go_enter Tryz.func33, Tryz.ntmps33
    go_wp2_with (first
      | (go_at_call 60; refine HX.out.mono ?_; rintro e w1 h1; obtain ⟨g, rfl, h3, h4, h5⟩ := h1.get; have M1 := Lib.hid (And.intro h3 (And.intro h4 h5)); clear h1 h3 h4 h5))
    go_ret
    exact Reads.mk_ M1.out.1 M1.out.2.1 M1.out.2.2
set_option maxRecDepth 100000 in
set_option maxHeartbeats 4000000 in
theorem p_and (f : Nat) (HB : ∀ f', f' ≤ f → LevelC q a c sz l 79 (fun i => pL l f' 3 i)) : LevelC q a c sz l 61 (fun i => pL l (f + 1) 2 i) := by
  intro i W h hr
  have hr0 : pL l (f + 1) 2 i = rowR l f 2 i := pL_row l f 2 i (by omega) (by omega)
  simp only at hr ⊢
  rw [hr0] at hr ⊢
  have HX : Hid (Calls Tryz.prog 60 #[.pointer (some ⟨q, 0, none⟩), .int .i64 2, .func (.func 79) #[.pointer (some ⟨q, 0, none⟩)] #[], .bool false] W (Reads q a c sz l W (rowR l f 2 i))) := Lib.hid (p_row 2 f 79 false (by decide) (fun _ _ => rfl) HB h hr)
  have hmf : ∀ (fn : Fn) (first cap : Array Value) (w : World), (Instr.makeFunc fn first cap).run Tryz.prog w = .ok (.func fn first cap) w := fun _ _ _ _ => rfl
  obtain ⟨r, hrr⟩ : ∃ r, rowR l f 2 i = r := ⟨_, rfl⟩
  rw [hrr] at hr HX ⊢
  clear hr0 HB h hrr
  cases r with
  | out => exact absurd rfl hr
  | no j =>
    clear hr
    go_enter Tryz.func61, Tryz.ntmps61
    go_wp2_with (first
      | (go_at_call 60; refine HX.out.mono ?_; rintro e w1 ⟨rfl, h1⟩; have M1 := Lib.hid h1; clear h1))
    exact ⟨rfl, rfl, M1.out⟩
  | ok t j =>
    clear hr
    go_enter Tryz.func61, Tryz.ntmps61
    go_wp2_with (first
      | (go_at_call 60; refine HX.out.mono ?_; rintro e w1 h1; obtain ⟨g, rfl, h3, h4, h5⟩ := h1.get; have M1 := Lib.hid (And.intro h3 (And.intro h4 h5)); clear h1 h3 h4 h5))
    go_ret
    exact Reads.mk_ M1.out.1 M1.out.2.1 M1.out.2.2
set_option maxRecDepth 100000 in
set_option maxHeartbeats 4000000 in
theorem p_cmp (f : Nat) (HB : ∀ f', f' ≤ f → LevelC q a c sz l 93 (fun i => pL l f' 5 i)) : LevelC q a c sz l 89 (fun i => pL l (f + 1) 4 i) := by
  intro i W h hr
  have hr0 : pL l (f + 1) 4 i = rowR l f 4 i := pL_row l f 4 i (by omega) (by omega)
  simp only at hr ⊢
  rw [hr0] at hr ⊢
  have HX : Hid (Calls Tryz.prog 60 #[.pointer (some ⟨q, 0, none⟩), .int .i64 4, .func (.func 93) #[.pointer (some ⟨q, 0, none⟩)] #[], .bool true] W (Reads q a c sz l W (rowR l f 4 i))) := Lib.hid (p_row 4 f 93 true (by decide) (fun _ _ => rfl) HB h hr)
  have hmf : ∀ (fn : Fn) (first cap : Array Value) (w : World), (Instr.makeFunc fn first cap).run Tryz.prog w = .ok (.func fn first cap) w := fun _ _ _ _ => rfl
  obtain ⟨r, hrr⟩ : ∃ r, rowR l f 4 i = r := ⟨_, rfl⟩
  rw [hrr] at hr HX ⊢
  clear hr0 HB h hrr
  cases r with
  | out => exact absurd rfl hr
  | no j =>
    clear hr
    go_enter Tryz.func89, Tryz.ntmps89
    go_wp2_with (first
      | (go_at_call 60; refine HX.out.mono ?_; rintro e w1 ⟨rfl, h1⟩; have M1 := Lib.hid h1; clear h1))
    exact ⟨rfl, rfl, M1.out⟩
  | ok t j =>
    clear hr
    go_enter Tryz.func89, Tryz.ntmps89
    go_wp2_with (first
      | (go_at_call 60; refine HX.out.mono ?_; rintro e w1 h1; obtain ⟨g, rfl, h3, h4, h5⟩ := h1.get; have M1 := Lib.hid (And.intro h3 (And.intro h4 h5)); clear h1 h3 h4 h5))
    go_ret
    exact Reads.mk_ M1.out.1 M1.out.2.1 M1.out.2.2
set_option maxRecDepth 100000 in
set_option maxHeartbeats 4000000 in
theorem p_sum (f : Nat) (HB : ∀ f', f' ≤ f → LevelC q a c sz l 95 (fun i => pL l f' 6 i)) : LevelC q a c sz l 93 (fun i => pL l (f + 1) 5 i) := by
  intro i W h hr
  have hr0 : pL l (f + 1) 5 i = rowR l f 5 i := pL_row l f 5 i (by omega) (by omega)
  simp only at hr ⊢
  rw [hr0] at hr ⊢
  have HX : Hid (Calls Tryz.prog 60 #[.pointer (some ⟨q, 0, none⟩), .int .i64 5, .func (.func 95) #[.pointer (some ⟨q, 0, none⟩)] #[], .bool false] W (Reads q a c sz l W (rowR l f 5 i))) := Lib.hid (p_row 5 f 95 false (by decide) (fun _ _ => rfl) HB h hr)
  have hmf : ∀ (fn : Fn) (first cap : Array Value) (w : World), (Instr.makeFunc fn first cap).run Tryz.prog w = .ok (.func fn first cap) w := fun _ _ _ _ => rfl
  obtain ⟨r, hrr⟩ : ∃ r, rowR l f 5 i = r := ⟨_, rfl⟩
  rw [hrr] at hr HX ⊢
  clear hr0 HB h hrr
  cases r with
  | out => exact absurd rfl hr
  | no j =>
    clear hr
    go_enter Tryz.func93, Tryz.ntmps93
    go_wp2_with (first
      | (go_at_call 60; refine HX.out.mono ?_; rintro e w1 ⟨rfl, h1⟩; have M1 := Lib.hid h1; clear h1))
    exact ⟨rfl, rfl, M1.out⟩
  | ok t j =>
    clear hr
    go_enter Tryz.func93, Tryz.ntmps93
    go_wp2_with (first
      | (go_at_call 60; refine HX.out.mono ?_; rintro e w1 h1; obtain ⟨g, rfl, h3, h4, h5⟩ := h1.get; have M1 := Lib.hid (And.intro h3 (And.intro h4 h5)); clear h1 h3 h4 h5))
    go_ret
    exact Reads.mk_ M1.out.1 M1.out.2.1 M1.out.2.2
set_option maxRecDepth 100000 in
set_option maxHeartbeats 4000000 in
theorem p_prod (f : Nat) (HB : ∀ f', f' ≤ f → LevelC q a c sz l 100 (fun i => pL l f' 7 i)) : LevelC q a c sz l 95 (fun i => pL l (f + 1) 6 i) := by
  intro i W h hr
  have hr0 : pL l (f + 1) 6 i = rowR l f 6 i := pL_row l f 6 i (by omega) (by omega)
  simp only at hr ⊢
  rw [hr0] at hr ⊢
  have HX : Hid (Calls Tryz.prog 60 #[.pointer (some ⟨q, 0, none⟩), .int .i64 6, .func (.func 100) #[.pointer (some ⟨q, 0, none⟩)] #[], .bool false] W (Reads q a c sz l W (rowR l f 6 i))) := Lib.hid (p_row 6 f 100 false (by decide) (fun _ _ => rfl) HB h hr)
  have hmf : ∀ (fn : Fn) (first cap : Array Value) (w : World), (Instr.makeFunc fn first cap).run Tryz.prog w = .ok (.func fn first cap) w := fun _ _ _ _ => rfl
  obtain ⟨r, hrr⟩ : ∃ r, rowR l f 6 i = r := ⟨_, rfl⟩
  rw [hrr] at hr HX ⊢
  clear hr0 HB h hrr
  cases r with
  | out => exact absurd rfl hr
  | no j =>
    clear hr
    go_enter Tryz.func95, Tryz.ntmps95
    go_wp2_with (first
      | (go_at_call 60; refine HX.out.mono ?_; rintro e w1 ⟨rfl, h1⟩; have M1 := Lib.hid h1; clear h1))
    exact ⟨rfl, rfl, M1.out⟩
  | ok t j =>
    clear hr
    go_enter Tryz.func95, Tryz.ntmps95
    go_wp2_with (first
      | (go_at_call 60; refine HX.out.mono ?_; rintro e w1 h1; obtain ⟨g, rfl, h3, h4, h5⟩ := h1.get; have M1 := Lib.hid (And.intro h3 (And.intro h4 h5)); clear h1 h3 h4 h5))
    go_ret
    exact Reads.mk_ M1.out.1 M1.out.2.1 M1.out.2.2
/-- all of them, up to some fuel -/
theorem p_all (q : Nat) (a : Option Addr) (c sz : Nat) (l : List Tok) : ∀ F f : Nat, f ≤ F → LevelC q a c sz l 33 (fun i => pL l f 1 i) ∧ LevelC q a c sz l 61 (fun i => pL l f 2 i) ∧ LevelC q a c sz l 79 (fun i => pL l f 3 i) ∧ LevelC q a c sz l 89 (fun i => pL l f 4 i) ∧ LevelC q a c sz l 93 (fun i => pL l f 5 i) ∧ LevelC q a c sz l 95 (fun i => pL l f 6 i) ∧ LevelC q a c sz l 100 (fun i => pL l f 7 i) ∧ LevelC q a c sz l 105 (fun i => pP l f i) := by
  have zero : ∀ (fn : FuncId) (n : Nat), LevelC q a c sz l fn (fun i => pL l 0 n i) := fun fn n i W h hr => absurd (by simp only [pL]) hr
  intro F
  induction F with
  | zero =>
    intro f hf
    obtain rfl : f = 0 := by omega
    exact ⟨zero _ _, zero _ _, zero _ _, zero _ _, zero _ _, zero _ _, zero _ _, fun i W h hr => absurd (by simp only [pP]) hr⟩
  | succ F ih =>
    intro f hf
    rcases Nat.lt_or_ge f (F + 1) with h1 | h1
    · exact ih f (by omega)
    · obtain rfl : f = F + 1 := by omega
      have hF := ih F (Nat.le_refl _)
      exact ⟨p_or F (fun f' h => (ih f' h).2.1), p_and F (fun f' h => (ih f' h).2.2.1), p_not F hF.2.2.1 hF.2.2.2.1, p_cmp F (fun f' h => (ih f' h).2.2.2.2.1), p_sum F (fun f' h => (ih f' h).2.2.2.2.2.1), p_prod F (fun f' h => (ih f' h).2.2.2.2.2.2.1), p_post F hF.2.2.2.2.2.2.2, p_prim F hF.1⟩
/-- the parser reads a row of tokens as the grammar says -/
theorem p_top (h : PSt q a c sz l 0 W) : Calls Tryz.prog 33 #[.pointer (some ⟨q, 0, none⟩)] W (Reads q a c sz l W (pL l (12 * l.length + 10) 1 0)) := by
  refine (p_all q a c sz l (12 * l.length + 10) (12 * l.length + 10) (Nat.le_refl _)).1 0 W h ?_
  intro e
  have := parse_told l
  simp only at e
  rw [e] at this
  exact this
end
end Go.Proofs.YtidkbodmiegbkaaGreatDoor
namespace Go.Proofs.YtidkbodmiegbkaaGreatDoor
set_option linter.unusedSimpArgs false
set_option linter.unusedVariables false
theorem step_good {r : List Nat} {k n : Nat} {s : List Nat} {v : Int} {p : Int} (h : stepP r = (some (k, s, v), n)) : TokG ⟨k, s, v, p⟩ := by
  unfold TokG
  simp only
  unfold stepP at h
  split at h
  · simp at h
  · rename_i c t
    split at h
    · split at h
      · injection h with h1 h2
        injection h1 with h1
        injection h1 with h1 h3
        injection h3 with h3 h4
        left
        exact ⟨by rw [← h1]; rfl, by rw [← h4]; exact Int.natCast_nonneg _⟩
      · simp at h
    · split at h
      · split at h
        · injection h with h1 h2
          injection h1 with h1
          injection h1 with h1 h3
          injection h3 with h3 h4
          by_cases hw : (c :: t).takeWhile furtherN ∈ wordsL
          · rw [if_pos hw] at h1
            exact .inr (.inr (.inr (.inl ⟨by rw [← h1]; rfl, by rw [← h3]; exact hw⟩)))
          · rw [if_neg hw] at h1
            exact .inr (.inr (.inl (by rw [← h1]; rfl)))
        · simp at h
      · split at h
        · simp at h
        · rename_i hm
          injection h with h1 h2
          injection h1 with h1
          injection h1 with h1 h3
          injection h3 with h3 h4
          refine .inr (.inr (.inr (.inr ⟨by rw [← h1]; rfl, ?_⟩)))
          rw [← h3]
          unfold markN at hm ⊢
          cases hf : marksL.find? (fun m => m.isPrefixOf (c :: t)) with
          | none => rw [hf] at hm; exfalso; revert hm; simp only; split <;> simp
          | some m => exact List.mem_of_find?_eq_some hf
theorem scanT_good {l : List Nat} (hl : Bytes l) : ∀ (f i : Nat) (o : List Tok), (∀ t ∈ o, TokG t) → o.length ≤ i → i ≤ l.length → (scanT l f i o).2.2 = 0 → (∀ t ∈ (scanT l f i o).1, TokG t) ∧ (scanT l f i o).1.length ≤ l.length
  | 0, i, o, ho, hi, hil, _ => ⟨by rw [scanT]; exact ho, by rw [scanT]; simp only; omega⟩
  | f + 1, i, o, ho, hi, hil, he => by
    rw [scanT] at he ⊢
    cases hc : l[i]? with
    | none => exact ⟨ho, by simp only; omega⟩
    | some c =>
      rw [hc] at he
      have hlt := (List.getElem?_eq_some_iff.1 hc).1
      simp only at he ⊢
      by_cases h1 : c = 32 ∨ c = 10
      · rw [if_pos h1] at he ⊢
        exact scanT_good hl f (i + 1) o ho (by omega) (by omega) he
      · rw [if_neg h1] at he ⊢
        by_cases h2 : c = 34
        · rw [if_pos h2] at he ⊢
          by_cases h3 : (quoteAt l i).2.2 = 0
          · rw [if_pos h3] at he ⊢
            obtain ⟨a1, a2, a3⟩ := unq_some (l.length + 1) (i + 1) l [] (quoteAt l i).1 (quoteAt l i).2.1 hl (fun x hx => by cases hx) (by show quoteAt l i = _; rw [← h3])
            refine scanT_good hl f _ _ (fun t ht => ?_) (by simp; omega) a3 he
            rcases List.mem_append.1 ht with ht | ht
            · exact ho t ht
            · simp at ht
              subst ht
              exact .inr (.inl rfl)
          · rw [if_neg h3] at he
            simp at he
        · rw [if_neg h2] at he ⊢
          cases hs : (stepP (l.drop i)).1 with
          | none => rw [hs] at he; simp at he
          | some x =>
            obtain ⟨k, s, v⟩ := x
            rw [hs] at he
            simp only at he ⊢
            have hst : stepP (l.drop i) = (some (k, s, v), (stepP (l.drop i)).2) := by rw [← hs]
            obtain ⟨b1, b2, _⟩ := step_some (fun x hx => hl x (List.mem_of_mem_drop hx)) hst
            rw [List.length_drop] at b2
            refine scanT_good hl f _ _ (fun t ht => ?_) (by simp; omega) (by omega) he
            rcases List.mem_append.1 ht with ht | ht
            · exact ho t ht
            · simp at ht
              subst ht
              exact step_good hst
theorem scanT_place {l : List Nat} : ∀ (f i : Nat) (o : List Tok), (∀ t ∈ o, 0 ≤ t.place) → ∀ t ∈ (scanT l f i o).1, 0 ≤ t.place
  | 0, i, o, ho => by rw [scanT]; exact ho
  | f + 1, i, o, ho => by
    have snoc : ∀ (x : Tok), 0 ≤ x.place → ∀ t ∈ o ++ [x], 0 ≤ t.place := fun x hx t ht => by
      rcases List.mem_append.1 ht with ht | ht
      · exact ho t ht
      · simp at ht; subst ht; exact hx
    rw [scanT]
    cases hc : l[i]? with
    | none => exact ho
    | some c =>
      simp only
      by_cases h1 : c = 32 ∨ c = 10
      · rw [if_pos h1]; exact scanT_place f (i + 1) o ho
      · rw [if_neg h1]
        by_cases h2 : c = 34
        · rw [if_pos h2]
          by_cases h3 : (quoteAt l i).2.2 = 0
          · rw [if_pos h3]; exact scanT_place f _ _ (snoc _ (Int.natCast_nonneg _))
          · rw [if_neg h3]; intro t ht; cases ht
        · rw [if_neg h2]
          cases hs : (stepP (l.drop i)).1 with
          | none => intro t ht; cases ht
          | some x =>
            obtain ⟨k, s, v⟩ := x
            exact scanT_place f _ _ (snoc _ (Int.natCast_nonneg _))
theorem scan_place {l : List Nat} : ∀ t ∈ (scanN l).1, 0 ≤ t.place := by
  unfold scanN
  split
  · intro t ht; cases ht
  · exact scanT_place _ _ _ (fun t ht => by cases ht)
theorem scan_good {l : List Nat} (hl : Bytes l) (he : (scanN l).2.2 = 0) : (∀ t ∈ (scanN l).1, TokG t) ∧ (scanN l).1.length ≤ 4096 ∧ l.length ≤ 4096 := by
  unfold scanN at he ⊢
  by_cases h : 4096 < l.length
  · rw [if_pos h] at he; simp at he
  · rw [if_neg h] at he ⊢
    obtain ⟨h1, h2⟩ := scanT_good hl (l.length + 1) 0 [] (by simp) (Nat.le_refl _) (Nat.zero_le _) he
    exact ⟨h1, by omega, by omega⟩
end Go.Proofs.YtidkbodmiegbkaaGreatDoor
namespace Go.Proofs.YtidkbodmiegbkaaGreatDoor
set_option linter.unusedSimpArgs false
set_option linter.unusedVariables false
open Go.RowKit
/-- a node that is read -/
def ENode.Is (w : World) (B : Nat) (x : List Value) (d : EN) : Prop := ∃ kv, x = [.int .i64 (d.kind : Int), .string (txt d.text), .int .i64 d.num, kv] ∧ SlR w B 1 IsNat kv d.kids
theorem EL.read {X : World} {B : Nat} {v : Value} {es : List (EN × Value)} (h : EL X B v es) : SlR X X.heap.size 4 (ENode.Is X X.heap.size) v (es.map (·.1)) := by
  obtain ⟨a, c, rfl, h1, h2, h3⟩ := h.main.read (by omega)
  refine ⟨a, c, by rw [List.length_map], by rw [List.length_map]; exact h1, h2, fun hl => ?_⟩
  rw [List.length_map] at hl
  obtain ⟨b, off, hb, hlt, hat⟩ := h3 hl
  refine ⟨b, off, hb, hlt, fun i y hy => ?_⟩
  rw [List.getElem?_map] at hy
  cases he : es[i]? with
  | none => rw [he] at hy; cases hy
  | some p =>
    rw [he] at hy
    injection hy with hy
    subst hy
    obtain ⟨x, hx, ⟨hR, _⟩, hc⟩ := hat i p he
    exact ⟨x, hx, ⟨p.2, hR, (h.kids i p he).read (by omega)⟩, hc⟩
/-- what Parse comes to -/
def ParseIs (w : World) (R : List EN × Nat × Nat) (e : Ending) (w' : World) : Prop :=
  ∃ v, e = .returned (.tuple #[.agg #[v], .int .i64 (R.2.1 : Int), .int .i64 (R.2.2 : Int)]) ∧ SlR w' w'.heap.size 4 (ENode.Is w' w'.heap.size) v R.1 ∧ Below w.heap.size w w'
set_option maxRecDepth 100000 in
set_option maxHeartbeats 8000000 in
theorem parse8_any (s : ByteArray) (hs : s.size ≤ maxLen) (w : World) (hm : Marks w) (hg : Signs w) : Calls Tryz.prog 24 #[.string s] w (ParseIs w (parseN (bs s))) := by
  have hmf : ∀ (fn : Fn) (first cap : Array Value) (w : World), (Instr.makeFunc fn first cap).run Tryz.prog w = .ok (.func fn first cap) w := fun _ _ _ _ => rfl
  have HS := Lib.hid (fun W (hW : Below w.heap.size w W) => scan_any s hs W (hm.below hW))
  have HG := Lib.hid hg
  have h1w : 2 < w.heap.size := by
    obtain ⟨t, fr, h⟩ := signs_block hg
    rcases Nat.lt_or_ge 2 w.heap.size with h0 | h0
    · exact h0
    · rw [Array.getElem?_eq_none h0] at h; cases h
  have B0 : Hid (Below w.heap.size w (((w.alloc (.cells #[.slice none 0 0] 24)).alloc (.cells #[.int .i64 0] 3)).alloc (.cells #[.int .i64 0] 26))) := Lib.hid ((((Below.refl _ _).alloc (Nat.le_refl _) _).alloc (by simp) _).alloc (by simp; omega) _)
  have X0 := Lib.hid (Bx.new w)
  obtain ⟨R, hR⟩ : ∃ R, scanN (bs s) = R := ⟨_, rfl⟩
  by_cases he : R.2.2 = 0
  · have hgd := scan_good (bs_bytes s) (by rw [hR]; exact he)
    have hpl := scan_place (l := bs s)
    rw [hR] at hgd hpl HS
    obtain ⟨toks, at_, err⟩ := R
    simp only at he hgd hpl
    subst he
    obtain ⟨hgood, hfew, hs4⟩ := hgd
    obtain ⟨R2, hR2⟩ : ∃ R2, parseN (bs s) = R2 := ⟨_, rfl⟩
    rw [hR2]
    obtain ⟨sz, hsz⟩ : ∃ z, s.size = z := ⟨_, rfl⟩
    have hbl : (bs s).length = sz := by rw [bs_len, hsz]
    have HGD := Lib.hid hgood
    have HPL := Lib.hid hpl
    have HFW := Lib.hid hfew
    have hsz5 : (sz : Int) ≤ 5000 := by rw [hbl] at hs4; omega
    have HSZ := Lib.hid hsz
    -- what the grammar says of it
    have hpn : ∀ r, pL toks (12 * toks.length + 10) 1 0 = r → R2 = (match r.bind (fun t i => if i < toks.length then PR.no i else .ok t i) with
        | .ok t _ => if 256 < t.size ∨ 32 < t.deep then ([], 0, 4) else (t.flat 0, 0, 0)
        | .no i => ([], (match toks[i]? with | some x => x.place.toNat | none => sz), 80)
        | .out => ([], 0, 0)) := by
      intro r hr
      rw [← hR2, ← hr]
      unfold parseN parseT
      rw [hR, if_neg (by simp)]
      simp only [hbl]
      rfl
    have HPN := Lib.hid hpn
    obtain ⟨r, hrr⟩ : ∃ r, pL toks (12 * toks.length + 10) 1 0 = r := ⟨_, rfl⟩
    have hin := parse_told toks
    rw [hrr] at hin
    have HR2 := Lib.hid (hpn r hrr)
    have HT : Hid (∀ (q : Nat) (a : Option Addr) (c : Nat) (X : World), PSt q a c sz toks 0 X → Calls Tryz.prog 33 #[.pointer (some ⟨q, 0, none⟩)] X (Reads q a c sz toks X r)) := Lib.hid (fun q a c X h => by rw [← hrr]; exact p_top h)
    clear hm hg hR hgood hpl hfew hs4 hR2 hbl hpn HPN hrr
    -- the state in which the parser begins
    have HP : Hid (∀ (w1 : World) (a : Option Addr) (n c : Nat), Own1 w1 (((w.alloc (.cells #[.slice none 0 0] 24)).alloc (.cells #[.int .i64 0] 3)).alloc (.cells #[.int .i64 0] 26)).heap.size 82 4 Tok.Is (.slice a n c) toks → Below w.heap.size w w1 → Bx w1 w.heap.size (.slice none 0 0) 0 0 →
        ∀ X1, X1 = ((w1.setCell ⟨w.heap.size + 1, 0, none⟩ (.int .i64 (at_ : Int))).setCell ⟨w.heap.size + 1 + 1, 0, none⟩ (.int .i64 0)).alloc (.cells #[.slice a n c, .int .i64 0, .int .i64 (sz : Int)] 73) →
        n = toks.length ∧ PSt w1.heap.size a c sz toks 0 X1 ∧ Bx X1 w.heap.size (.slice none 0 0) at_ 0 ∧ Below w.heap.size w X1 ∧ w.heap.size + 2 < w1.heap.size) := Lib.hid (fun w1 a n c hO hB hX X1 hX1 => by
      subst hX1
      obtain ⟨a', c', hform⟩ := hO.form
      injection hform with _ e2 _
      subst e2
      have h2 := hX.set2 (at_ : Int) 0
      have lb := hX.err.lt
      have hO2 : Own1 ((w1.setCell ⟨w.heap.size + 1, 0, none⟩ (.int .i64 (at_ : Int))).setCell ⟨w.heap.size + 1 + 1, 0, none⟩ (.int .i64 0)) (((w.alloc (.cells #[.slice none 0 0] 24)).alloc (.cells #[.int .i64 0] 3)).alloc (.cells #[.int .i64 0] 26)).heap.size 82 4 Tok.Is (.slice a toks.length c) toks := (hO.setFar (by simp) _).setFar (by simp) _
      have hsz2 : ((w1.setCell ⟨w.heap.size + 1, 0, none⟩ (.int .i64 (at_ : Int))).setCell ⟨w.heap.size + 1 + 1, 0, none⟩ (.int .i64 0)).heap.size = w1.heap.size := by rw [World.size_setCell, World.size_setCell]
      have hR := hO2.read (by omega)
      rw [hsz2] at hR
      have ba := (Below.refl w1.heap.size ((w1.setCell ⟨w.heap.size + 1, 0, none⟩ (.int .i64 (at_ : Int))).setCell ⟨w.heap.size + 1 + 1, 0, none⟩ (.int .i64 0))).alloc (Nat.le_of_eq hsz2.symm) (.cells #[.slice a toks.length c, .int .i64 0, .int .i64 (sz : Int)] 73)
      have bw := (hB.trans h2.2).trans (ba.mono hB.size)
      refine ⟨rfl, ⟨hR.below ba, Blk.new_ hsz2.symm _ _, by omega, ?_, Nat.zero_le _, by have := HFW.out; omega, HGD.out⟩, h2.1.below ba lb, bw, lb⟩
      exact HG.out.of_block (bw.block 2 h1w))
    cases r with
    | out => exact absurd hin (by simp [PR.In])
    | no i =>
      have hres : R2 = ([], (match toks[i]? with | some x => x.place.toNat | none => sz), 80) := HR2.out
      obtain ⟨k, hk⟩ : ∃ k : Nat, placeAt toks sz i = (k : Int) ∧ (match toks[i]? with | some x => x.place.toNat | none => sz) = k := by
        unfold placeAt
        cases hx : toks[i]? with
        | none => exact ⟨sz, rfl, rfl⟩
        | some x =>
          have h0 := HPL.out x (List.mem_iff_getElem?.2 ⟨i, hx⟩)
          exact ⟨x.place.toNat, by simp only; omega, rfl⟩
      rw [hk.2] at hres
      subst hres
      have HK := Lib.hid hk.1
      clear hk hin HR2
      go_enter_defers Tryz.func24, Tryz.ntmps24
      go_wp2_with (first
        | (go_at_call 31; refine (HS.out _ B0.out).mono ?_; rintro e w1 ⟨a, n, c, rfl, hO, hB⟩; have X1 := Lib.hid (X0.out.below hB (by simp)); have B1 : Hid (Below w.heap.size w w1) := Lib.hid (B0.out.trans (hB.mono B0.out.size)); have O1 := Lib.hid hO; obtain ⟨c0, c1, c2, z0, z1, z2, lb⟩ := X1.out.cells; clear hO hB))
      generalize hwq : World.alloc (World.setCell (World.setCell _ _ _) _ _) _ = W2
      obtain ⟨rfl, hp, hx, hb, lbw⟩ := HP.out w1 a n c O1.out B1.out X1.out W2 (by rw [← hwq])
      clear hwq c0 c1 c2 z0 z1 z2 lb O1 X1 B0 X0
      have P2 := Lib.hid hp
      have X2 := Lib.hid hx
      have B2 := Lib.hid hb
      have LBW := Lib.hid lbw
      clear hp hx hb lbw

      refine (HT.out _ _ _ _ P2.out).mono ?_
      rintro e w5 ⟨rfl, h5⟩
      have q2 : w.heap.size + 2 < w1.heap.size := LBW.out
      have X5 := X2.out.below h5.low q2
      have B5 : Below w.heap.size w w5 := B2.out.trans (h5.low.mono (by omega))
      rw [HK.out]
      clear P2 X2 B2 HT HP HS HPL HGD
      refine leaves_cons (f := 32) (args := #[.pointer (some ⟨w.heap.size, 0, none⟩), .pointer (some ⟨w.heap.size + 1, 0, none⟩), .pointer (some ⟨w.heap.size + 1 + 1, 0, none⟩)]) (by simp) (by simp [go_sem]) ?_
      refine (catch_wrong w.heap.size (k : Int) _ _ [] w5 _ ⟨_, _, _, rfl⟩ X5).mono ?_
      rintro e u' wf ⟨rfl, rfl, hBf, hKf⟩
      obtain ⟨c0, c1, c2, z0, z1, z2, lb⟩ := hKf.cells
      have c2' : wf.cell? ⟨w.heap.size + 1 + 1, 0, none⟩ = some (.int .i64 80) := c2
      have HF : Hid (Below w.heap.size w wf) := Lib.hid (B5.trans hBf)
      clear c2 hBf hKf X5 B5 z0 z1 z2 lb
      simp [Leaves, settle, results, Tryz.results24, go_sem, c0, c1, c2']
      exact ⟨.slice none 0 0, rfl, SlR.nil_ _ (by unfold maxLen; omega) _, HF.out⟩
    | ok t j =>
      obtain ⟨tl, htl⟩ : ∃ z, toks.length = z := ⟨_, rfl⟩
      have Htl := Lib.hid htl
      simp only [PR.In] at hin
      obtain ⟨hin1, hin2, hin3⟩ := hin
      have hfew5 := HFW.out
      rw [htl] at hin2 hfew5
      have j5 : (j : Int) ≤ 5000 := by omega
      have tl63 : tl ≤ 9223372036854775807 := by omega
      clear htl
      by_cases hlt : j < tl
      · obtain ⟨x, hx⟩ := get_some Htl.out hlt
        have hplx := HPL.out x (List.mem_iff_getElem?.2 ⟨j, hx⟩)
        obtain ⟨k, hk⟩ : ∃ k : Nat, x.place = (k : Int) := ⟨x.place.toNat, by omega⟩
        have hres : R2 = ([], k, 80) := by
          have h0 := HR2.out
          simp only [PR.bind] at h0
          rw [if_pos (by rw [Htl.out]; exact hlt)] at h0
          simp only [hx, hk, Int.toNat_natCast] at h0
          exact h0
        subst hres
        have HK : Hid (placeAt toks sz j = (k : Int)) := Lib.hid (by unfold placeAt; rw [hx]; exact hk)
        have dlt : decide (j < tl) = true := by simpa using hlt
        clear hx hplx hk hlt HR2
        go_enter_defers Tryz.func24, Tryz.ntmps24
        go_wp2_with (first
          | (go_at_call 31; refine (HS.out _ B0.out).mono ?_; rintro e w1 ⟨a, n, c, rfl, hO, hB⟩; have X1 := Lib.hid (X0.out.below hB (by simp)); have B1 : Hid (Below w.heap.size w w1) := Lib.hid (B0.out.trans (hB.mono B0.out.size)); have O1 := Lib.hid hO; obtain ⟨c0, c1, c2, z0, z1, z2, lb⟩ := X1.out.cells; clear hO hB))
        generalize hwq : World.alloc (World.setCell (World.setCell _ _ _) _ _) _ = W2
        obtain ⟨rfl, hp, hx, hb, lbw⟩ := HP.out w1 a n c O1.out B1.out X1.out W2 (by rw [← hwq])
        clear hwq c0 c1 c2 z0 z1 z2 lb O1 X1 B0 X0
        have P2 := Lib.hid hp
        have X2 := Lib.hid hx
        have B2 := Lib.hid hb
        have LBW := Lib.hid lbw
        clear hp hx hb lbw
        refine (HT.out _ _ _ _ P2.out).mono ?_
        rintro e w5 h5
        obtain ⟨g, rfl, hT5, hM5, hP5⟩ := h5.get
        have T5 := Lib.hid hT5
        have M5 := Lib.hid hM5
        have P5 := Lib.hid hP5
        obtain ⟨g0, g1, g2, g3, g4⟩ := hP5.facts
        rw [Htl.out] at g0 ⊢
        have X5 := Lib.hid (X2.out.below hM5.low LBW.out)
        have B5 : Hid (Below w.heap.size w w5) := Lib.hid (B2.out.trans (hM5.low.mono (by have := LBW.out; omega)))
        clear h5 hT5 hM5 hP5 g2 g3 X2 B2 P2
        go_wp2_with fail
        go_quiet (fail)
        rename_i nq
        have Q6 : Hid (Quiet w5 (w5.drewN nq)) := Lib.hid ⟨nq, rfl⟩
        go_wp2_with (first
          | (go_at_call 34; refine (p_give (P5.out.quiet Q6.out)).mono ?_; rintro e w6 ⟨rfl, q6⟩; have Q7 := Lib.hid (Q6.out.trans q6); clear q6))
        have lq5 : w.heap.size + 2 < w5.heap.size := by have := LBW.out; have := M5.out.low.size; have := P5.out.box.lt; omega
        have X6 := X5.out.below (Q7.out.below w5.heap.size) lq5
        have B6 : Below w.heap.size w w6 := B5.out.trans (Q7.out.below _)
        rw [HK.out]
        refine leaves_cons (f := 32) (args := #[.pointer (some ⟨w.heap.size, 0, none⟩), .pointer (some ⟨w.heap.size + 1, 0, none⟩), .pointer (some ⟨w.heap.size + 1 + 1, 0, none⟩)]) (by simp) (by simp [go_sem]) ?_
        refine (catch_wrong w.heap.size (k : Int) _ _ [] w6 _ ⟨_, _, _, rfl⟩ X6).mono ?_
        rintro e u' wf ⟨rfl, rfl, hBf, hKf⟩
        obtain ⟨c0, c1, c2, z0, z1, z2, lb⟩ := hKf.cells
        have c2' : wf.cell? ⟨w.heap.size + 1 + 1, 0, none⟩ = some (.int .i64 80) := c2
        have HF : Hid (Below w.heap.size w wf) := Lib.hid (B6.trans hBf)
        clear c2 hBf hKf X6 B6 z0 z1 z2 lb g0 g1 g4 HT HP HS HPL HGD
        simp [Leaves, settle, results, Tryz.results24, go_sem, c0, c1, c2']
        exact ⟨.slice none 0 0, rfl, SlR.nil_ _ (by unfold maxLen; omega) _, HF.out⟩
      · have hjt : j = tl := by omega
        subst hjt
        clear hlt
        have hres : R2 = if 256 < t.size ∨ 32 < t.deep then ([], 0, 4) else (t.flat 0, 0, 0) := by
          have h0 := HR2.out
          simp only [PR.bind] at h0
          rw [if_neg (by rw [Htl.out]; omega)] at h0
          exact h0
        have dlt : decide (j < j) = false := by simp
        have HRES := Lib.hid hres
        have hsz5 : t.size ≤ 5000 := by omega
        have hdp5 : t.deep ≤ 5000 := by have := deep_le t; omega
        have HTS := Lib.hid hsz5
        clear hres HR2
        go_enter_defers Tryz.func24, Tryz.ntmps24
        go_wp2_with (first
          | (go_at_call 31; refine (HS.out _ B0.out).mono ?_; rintro e w1 ⟨a, n, c, rfl, hO, hB⟩; have X1 := Lib.hid (X0.out.below hB (by simp)); have B1 : Hid (Below w.heap.size w w1) := Lib.hid (B0.out.trans (hB.mono B0.out.size)); have O1 := Lib.hid hO; obtain ⟨c0, c1, c2, z0, z1, z2, lb⟩ := X1.out.cells; clear hO hB))
        generalize hwq : World.alloc (World.setCell (World.setCell _ _ _) _ _) _ = W2
        obtain ⟨rfl, hp, hx, hb, lbw⟩ := HP.out w1 a n c O1.out B1.out X1.out W2 (by rw [← hwq])
        clear hwq c0 c1 c2 z0 z1 z2 lb O1 X1 B0 X0
        have P2 := Lib.hid hp
        have X2 := Lib.hid hx
        have B2 := Lib.hid hb
        have LBW := Lib.hid lbw
        clear hp hx hb lbw
        refine (HT.out _ _ _ _ P2.out).mono ?_
        rintro e w5 h5
        obtain ⟨g, rfl, hT5, hM5, hP5⟩ := h5.get
        have T5 := Lib.hid hT5
        have M5 := Lib.hid hM5
        have P5 := Lib.hid hP5
        obtain ⟨g0, g1, g2, g3, g4⟩ := hP5.facts
        rw [Htl.out] at g0 ⊢
        have X5 := Lib.hid (X2.out.below hM5.low LBW.out)
        have B5 : Hid (Below w.heap.size w w5) := Lib.hid (B2.out.trans (hM5.low.mono (by have := LBW.out; omega)))
        clear h5 hT5 hM5 hP5 g2 g3 X2 B2 P2
        go_wp2_with fail
        go_quiet (fail)
        rename_i nq
        have Q6 : Hid (Quiet w5 (w5.drewN nq)) := Lib.hid ⟨nq, rfl⟩
        have HFL := Lib.hid (p_flat _ w5 t.size t g (w5.drewN nq) (.slice none 0 0) [] (Nat.le_refl _) T5.out (Q6.out.below _) (EL.nil _ _) (by simpa using HTS.out))
        have LQ5 : Hid (w.heap.size + 2 < w5.heap.size) := Lib.hid (by have := LBW.out; have := M5.out.low.size; have := P5.out.box.lt; omega)
        obtain ⟨dp, hdp⟩ : ∃ z, t.deep = z := ⟨_, rfl⟩
        obtain ⟨n6, hn6⟩ : ∃ z, t.size = z := ⟨_, rfl⟩
        rw [hdp, hn6] at HRES
        rw [hdp] at hdp5
        rw [hn6] at hsz5
        have HDP := Lib.hid hdp
        have HN6 := Lib.hid hn6
        clear hdp hn6 g0 g1 g4 HTS
        go_wp2_with (first
          | (go_at_call 35; refine HFL.out.mono ?_; rintro e w6 ⟨v6, es6, rfl, hE6, hm6, hB6⟩; rw [List.nil_append] at hE6; obtain ⟨a6, c6, rfl⟩ := hE6.main.form; have hl6 : es6.length = n6 := by have := congrArg List.length hm6; rw [List.length_map, trFlat_len, HN6.out] at this; exact this
             rw [hl6] at hE6 ⊢; rw [HDP.out]; have E6 := Lib.hid hE6; have HM6 : Hid (es6.map (·.1) = t.flat 0) := Lib.hid hm6; have hx6 := (X5.out.below (Q6.out.below w5.heap.size) LQ5.out).below hB6 LQ5.out; have X6 := Lib.hid hx6; have B6 : Hid (Below w.heap.size w w6) := Lib.hid ((B5.out.trans (Q6.out.below _)).trans (hB6.mono (by have := LQ5.out; omega))); obtain ⟨y0, y1, y2', x0, x1, x2', ly2'⟩ := hx6.cells; have y2 : w6.cell? ⟨w.heap.size + 1 + 1, 0, none⟩ = some (.int .i64 0) := y2'; have x2 : w6.frozen? ⟨w.heap.size + 1 + 1, 0, none⟩ = false := x2'; have ly2 : w.heap.size + 1 + 1 < w6.heap.size := ly2'; have ly1 : w.heap.size + 1 < w6.heap.size := by omega
             have ly : w.heap.size < w6.heap.size := by omega
             clear hE6 hm6 hx6 hB6 hl6 y2' x2' ly2'))
        · have hr := HRES.out
          rw [if_pos (by omega)] at hr
          subst hr
          generalize hwq : World.setCell (World.setCell (World.setCell _ _ _) _ _) _ _ = W7
          have hs7 := X6.out.set (.slice none 0 0) 0 4
          have h7 : Bx W7 w.heap.size (.slice none 0 0) 0 4 ∧ Below w.heap.size w6 W7 := by rw [← hwq]; exact hs7
          have E7 : EL W7 w5.heap.size (.slice a6 n6 c6) es6 := by
            rw [← hwq]
            have far : ∀ (p : Addr) (u : Value) (Y : World), p.block < w5.heap.size → EL Y w5.heap.size (.slice a6 n6 c6) es6 → EL (Y.setCell p u) w5.heap.size (.slice a6 n6 c6) es6 := fun p u Y hp h => ⟨h.main.setFar hp u, fun i x hx => (h.kids i x hx).setFar hp u, h.apart⟩
            exact far _ _ _ (by show w.heap.size + 2 < _; exact LQ5.out) (far _ _ _ (by show w.heap.size + 1 < _; have := LQ5.out; omega) (far _ _ _ (by show w.heap.size < _; have := LQ5.out; omega) E6.out))
          have B7 : Hid (Below w.heap.size w W7) := Lib.hid (B6.out.trans h7.2)
          have hrd := E7.read
          rw [HM6.out] at hrd
          obtain ⟨c0, c1, c2, z0, z1, z2, lb⟩ := h7.1.cells
          have c2' : W7.cell? ⟨w.heap.size + 1 + 1, 0, none⟩ = some (.int .i64 4) := c2
          clear hwq hs7 c2 z0 z1 z2 lb h7 y0 y1 y2 x0 x1 x2 ly ly1 ly2
          refine leaves_cons (f := 32) (args := #[.pointer (some ⟨w.heap.size, 0, none⟩), .pointer (some ⟨w.heap.size + 1, 0, none⟩), .pointer (some ⟨w.heap.size + 1 + 1, 0, none⟩)]) (by simp) (by simp [go_sem]) ?_
          refine (catch_idle _ _ _ _).mono ?_
          rintro e u' wf ⟨rfl, rfl, rfl⟩
          simp [Leaves, settle, results, Tryz.results24, go_sem, c0, c1, c2']
          exact ⟨(.slice none 0 0), rfl, SlR.nil_ _ (by unfold maxLen; omega) _, B7.out⟩
        · have hr := HRES.out
          rw [if_neg (by omega)] at hr
          subst hr
          generalize hwq : World.setCell (World.setCell (World.setCell _ _ _) _ _) _ _ = W7
          have hs7 := X6.out.set (.slice a6 n6 c6) 0 0
          have h7 : Bx W7 w.heap.size (.slice a6 n6 c6) 0 0 ∧ Below w.heap.size w6 W7 := by rw [← hwq]; exact hs7
          have E7 : EL W7 w5.heap.size (.slice a6 n6 c6) es6 := by
            rw [← hwq]
            have far : ∀ (p : Addr) (u : Value) (Y : World), p.block < w5.heap.size → EL Y w5.heap.size (.slice a6 n6 c6) es6 → EL (Y.setCell p u) w5.heap.size (.slice a6 n6 c6) es6 := fun p u Y hp h => ⟨h.main.setFar hp u, fun i x hx => (h.kids i x hx).setFar hp u, h.apart⟩
            exact far _ _ _ (by show w.heap.size + 2 < _; exact LQ5.out) (far _ _ _ (by show w.heap.size + 1 < _; have := LQ5.out; omega) (far _ _ _ (by show w.heap.size < _; have := LQ5.out; omega) E6.out))
          have B7 : Hid (Below w.heap.size w W7) := Lib.hid (B6.out.trans h7.2)
          have hrd := E7.read
          rw [HM6.out] at hrd
          obtain ⟨c0, c1, c2, z0, z1, z2, lb⟩ := h7.1.cells
          have c2' : W7.cell? ⟨w.heap.size + 1 + 1, 0, none⟩ = some (.int .i64 0) := c2
          clear hwq hs7 c2 z0 z1 z2 lb h7 y0 y1 y2 x0 x1 x2 ly ly1 ly2
          refine leaves_cons (f := 32) (args := #[.pointer (some ⟨w.heap.size, 0, none⟩), .pointer (some ⟨w.heap.size + 1, 0, none⟩), .pointer (some ⟨w.heap.size + 1 + 1, 0, none⟩)]) (by simp) (by simp [go_sem]) ?_
          refine (catch_idle _ _ _ _).mono ?_
          rintro e u' wf ⟨rfl, rfl, rfl⟩
          simp [Leaves, settle, results, Tryz.results24, go_sem, c0, c1, c2']
          exact ⟨(.slice a6 n6 c6), rfl, hrd, B7.out⟩
        · have hr := HRES.out
          rw [if_pos (by omega)] at hr
          subst hr
          generalize hwq : World.setCell (World.setCell (World.setCell _ _ _) _ _) _ _ = W7
          have hs7 := X6.out.set (.slice none 0 0) 0 4
          have h7 : Bx W7 w.heap.size (.slice none 0 0) 0 4 ∧ Below w.heap.size w6 W7 := by rw [← hwq]; exact hs7
          have E7 : EL W7 w5.heap.size (.slice a6 n6 c6) es6 := by
            rw [← hwq]
            have far : ∀ (p : Addr) (u : Value) (Y : World), p.block < w5.heap.size → EL Y w5.heap.size (.slice a6 n6 c6) es6 → EL (Y.setCell p u) w5.heap.size (.slice a6 n6 c6) es6 := fun p u Y hp h => ⟨h.main.setFar hp u, fun i x hx => (h.kids i x hx).setFar hp u, h.apart⟩
            exact far _ _ _ (by show w.heap.size + 2 < _; exact LQ5.out) (far _ _ _ (by show w.heap.size + 1 < _; have := LQ5.out; omega) (far _ _ _ (by show w.heap.size < _; have := LQ5.out; omega) E6.out))
          have B7 : Hid (Below w.heap.size w W7) := Lib.hid (B6.out.trans h7.2)
          have hrd := E7.read
          rw [HM6.out] at hrd
          obtain ⟨c0, c1, c2, z0, z1, z2, lb⟩ := h7.1.cells
          have c2' : W7.cell? ⟨w.heap.size + 1 + 1, 0, none⟩ = some (.int .i64 4) := c2
          clear hwq hs7 c2 z0 z1 z2 lb h7 y0 y1 y2 x0 x1 x2 ly ly1 ly2
          refine leaves_cons (f := 32) (args := #[.pointer (some ⟨w.heap.size, 0, none⟩), .pointer (some ⟨w.heap.size + 1, 0, none⟩), .pointer (some ⟨w.heap.size + 1 + 1, 0, none⟩)]) (by simp) (by simp [go_sem]) ?_
          refine (catch_idle _ _ _ _).mono ?_
          rintro e u' wf ⟨rfl, rfl, rfl⟩
          simp [Leaves, settle, results, Tryz.results24, go_sem, c0, c1, c2']
          exact ⟨(.slice none 0 0), rfl, SlR.nil_ _ (by unfold maxLen; omega) _, B7.out⟩
  · have hp : parseN (bs s) = ([], R.2.1, R.2.2) := by unfold parseN; rw [hR, if_pos he]
    rw [hp]
    clear hp hm hg
    rw [hR] at HS
    obtain ⟨toks, at_, err⟩ := R
    simp only at he ⊢
    have e1 : ((err : Int) != 0) = true := by simp; omega
    have e2 : ¬ (err : Int) = 0 := by omega
    clear he hR
    go_enter_defers Tryz.func24, Tryz.ntmps24
    go_wp2_with (first
      | (go_at_call 31; refine (HS.out _ B0.out).mono ?_; rintro e w1 ⟨a, n, c, rfl, hO, hB⟩; have X1 := Lib.hid (X0.out.below hB (by simp)); have B1 : Hid (Below w.heap.size w w1) := Lib.hid (B0.out.trans (hB.mono B0.out.size)); obtain ⟨c0, c1, c2, z0, z1, z2, lb⟩ := X1.out.cells; clear hO hB))
    generalize hwq : World.setCell (World.setCell _ _ _) _ _ = W2
    have hX2 := X1.out.set2 (at_ : Int) (err : Int)
    have h2 : Bx W2 w.heap.size (.slice none 0 0) at_ err ∧ Below w.heap.size w1 W2 := by rw [← hwq]; exact hX2
    clear hwq hX2 c0 c1 c2 z0 z1 z2 lb X0 B0
    have X2 := Lib.hid h2.1
    have B2 : Hid (Below w.heap.size w W2) := Lib.hid (B1.out.trans h2.2)
    obtain ⟨c0, c1, c2, z0, z1, z2, lb⟩ := h2.1.cells
    clear h2 X1 B1
    have c2' : W2.cell? ⟨w.heap.size + 1 + 1, 0, none⟩ = some (.int .i64 (err : Int)) := c2
    have z2' : W2.frozen? ⟨w.heap.size + 1 + 1, 0, none⟩ = false := z2
    have lb' : w.heap.size + 1 + 1 < W2.heap.size := lb
    have lb1 : w.heap.size + 1 < W2.heap.size := by omega
    have lb0 : w.heap.size < W2.heap.size := by omega
    clear c2 z2 lb
    go_region
    generalize hwq : World.drew _ = W3
    have hX3 := X2.out.set (.slice none 0 0) (at_ : Int) (err : Int)
    have h3 : Bx W3 w.heap.size (.slice none 0 0) at_ err ∧ Below w.heap.size W2 W3 := by rw [← hwq]; exact ⟨hX3.1.below ((Below.refl _ _).drew) hX3.1.err.lt, hX3.2.drew⟩
    clear hwq hX3 c0 c1 c2' z0 z1 z2' lb' lb1 lb0 X2
    obtain ⟨c0, c1, c2, z0, z1, z2, lb⟩ := h3.1.cells
    have c2' : W3.cell? ⟨w.heap.size + 1 + 1, 0, none⟩ = some (.int .i64 (err : Int)) := c2
    have B3 : Hid (Below w.heap.size w W3) := Lib.hid (B2.out.trans h3.2)
    clear h3 c2 z0 z1 z2 lb
    go_wp2_with fail
    simp [bodyPostD, Leaves, settle, results, Tryz.results24, go_sem, c0, c1, c2']
    exact ⟨.slice none 0 0, rfl, SlR.nil_ _ (by unfold maxLen; omega) _, B3.out⟩
end Go.Proofs.YtidkbodmiegbkaaGreatDoor
namespace Go.Proofs.YtidkbodmiegbkaaGreatDoor
set_option linter.unusedSimpArgs false
set_option linter.unusedVariables false
open Go.RowKit
section
variable {q : Nat} {a : Option Addr} {c sz : Nat} {l : List Tok} {i : Nat} {bad : Int} {es : List (EN × Value)} {X : World}
theorem EL.setFar {Y : World} {B : Nat} {v : Value} (h : EL Y B v es) {p : Addr} (hp : p.block < B) (u : Value) : EL (Y.setCell p u) B v es := ⟨h.main.setFar hp u, fun j x hx => (h.kids j x hx).setFar hp u, h.apart⟩
theorem EL.keep {Y Y' : World} {B C : Nat} {v : Value} (h : EL Y B v es) (hb : Below C Y Y') (hC : Y.heap.size ≤ C) : EL Y' B v es := ⟨h.main.below hb hC, fun j x hx => (h.kids j x hx).below hb hC, h.apart⟩
end
end Go.Proofs.YtidkbodmiegbkaaGreatDoor
namespace Go.Proofs.YtidkbodmiegbkaaGreatDoor
set_option linter.unusedSimpArgs false
set_option linter.unusedVariables false
open Go.RowKit
/-- a node -/
structure ND where
  kind : Int
  text : List Nat
  num : Int
  kids : List Int
  deriving DecidableEq
/-- a number's cell -/
def IsI (x : List Value) (n : Int) : Prop := x = [.int .i64 n]
/-- a node that is read -/
def ND.Is (w : World) (B : Nat) (x : List Value) (d : ND) : Prop := ∃ kv, x = [.int .i64 d.kind, .string (txt d.text), .int .i64 d.num, kv] ∧ SlR w B 1 IsI kv d.kids
/-- a node that the program has read -/
def EN.nd (d : EN) : ND := ⟨d.kind, d.text, d.num, d.kids.map fun n : Nat => (n : Int)⟩
theorem SlR.map_ {α β : Type} {w : World} {B size : Nat} {R : List Value → α → Prop} {R' : List Value → β → Prop} {v : Value} {l : List α} (f : α → β) (h : SlR w B size R v l) (hR : ∀ x y, R x y → R' x (f y)) : SlR w B size R' v (l.map f) := by
  obtain ⟨a, c, e1, e2, e3, e4⟩ := h
  refine ⟨a, c, by rw [List.length_map]; exact e1, by rw [List.length_map]; exact e2, e3, fun hl => ?_⟩
  rw [List.length_map] at hl
  obtain ⟨b, off, k1, k2, k3⟩ := e4 hl
  refine ⟨b, off, k1, k2, fun i y hy => ?_⟩
  rw [List.getElem?_map] at hy
  obtain ⟨z, hz, rfl⟩ := Option.map_eq_some_iff.1 hy
  obtain ⟨x, m1, m2, m3⟩ := k3 i z hz
  exact ⟨x, m1, hR x z m2, m3⟩
theorem ENode.nd {w : World} {B : Nat} {x : List Value} {d : EN} (h : ENode.Is w B x d) : ND.Is w B x d.nd := by
  obtain ⟨kv, rfl, h2⟩ := h
  exact ⟨kv, rfl, h2.map_ _ (fun x y h => h)⟩
theorem ND.keep {w w' : World} {B : Nat} {x : List Value} {d : ND} (h : ND.Is w B x d) (hb : Below B w w') : ND.Is w' B x d := by
  obtain ⟨kv, h1, h2⟩ := h
  exact ⟨kv, h1, h2.below hb⟩
theorem ND.more {w : World} {B B' : Nat} {x : List Value} {d : ND} (h : ND.Is w B x d) (hb : B ≤ B') : ND.Is w B' x d := by
  obtain ⟨kv, h1, h2⟩ := h
  exact ⟨kv, h1, h2.more hb⟩
/-- what a node may hold: bytes, and not more than memory has -/
def NdOk (d : ND) : Prop := Bytes d.text ∧ d.text.length ≤ 140737488355328 ∧ -9223372036854775808 ≤ d.num ∧ d.num ≤ 9223372036854775807
/-- how many parts a Kind has -/
def kidsN (k : Int) : Int := if 1 ≤ k ∧ k ≤ 7 then 0 else if (8 ≤ k ∧ k ≤ 19) ∨ k = 29 then 1 else if (20 ≤ k ∧ k ≤ 28) ∨ (31 ≤ k ∧ k ≤ 34) then 2 else if k = 30 then 3 else -1
def namedL : List Int := [7, 8, 9, 10, 12, 13, 31, 32, 33, 34]
/-- a name that is no reserved word -/
def plain8N (s : List Nat) : Bool := rightN s && !decide (s ∈ wordsL)
/-- may a node be, by itself? -/
def mayE (d : ND) : Bool :=
  decide (kidsN d.kind = (d.kids.length : Int)) && !(decide (d.num ≠ 0) && decide (d.kind ≠ 1)) && !decide (d.num = -9223372036854775808) &&
    (if d.kind ∈ namedL then plain8N d.text else decide (d.text = []) || (decide (d.kind = 2) && decide (d.text.length ≤ 4096)))
/-- the parts of a node, each next where the one ahead ended: how deep, where it ends -/
def metL (g : Nat → Option (Nat × Nat)) : List Int → Nat → Nat → Option (Nat × Nat)
  | [], n, dp => some (dp, n)
  | k :: ks, n, dp => if k = (n : Int) then (match g n with | none => none | some r => metL g ks r.2 (max dp r.1)) else none
/-- a node at a place, and all below it: how deep, where it ends -/
def metN (l : List ND) : Nat → Nat → Option (Nat × Nat)
  | 0, _ => none
  | f + 1, m => match l[m]? with
    | none => none
    | some d => if mayE d = true then (metL (metN l f) d.kids (m + 1) 0).map fun r => (r.1 + 1, r.2) else none
/-- P8.2 -/
def rightE (l : List ND) : Nat :=
  if 256 < l.length then 4
  else match metN l l.length 0 with
    | none => 80
    | some r => if r.2 ≠ l.length then 80 else if 32 < r.1 then 4 else 0
theorem metL_in {l : List ND} {g : Nat → Option (Nat × Nat)} (hg : ∀ n r, g n = some r → n < r.2 ∧ r.2 ≤ l.length ∧ 1 ≤ r.1 ∧ r.1 + n ≤ r.2) : ∀ (ks : List Int) (n dp : Nat) (r : Nat × Nat), n ≤ l.length → metL g ks n dp = some r → n ≤ r.2 ∧ r.2 ≤ l.length ∧ dp ≤ r.1 ∧ (r.1 ≤ dp ∨ r.1 + n ≤ r.2)
  | [], n, dp, r, hn, h => by simp only [metL] at h; injection h with h; subst h; simp; exact hn
  | k :: ks, n, dp, r, hn, h => by
    simp only [metL] at h
    split at h
    · split at h
      · cases h
      · rename_i x hx
        obtain ⟨h1, h2, h3, h4⟩ := hg n x hx
        obtain ⟨k1, k2, k3, k4⟩ := metL_in hg ks x.2 (max dp x.1) r h2 h
        refine ⟨by omega, k2, by omega, ?_⟩
        rcases k4 with k4 | k4 <;> omega
    · cases h
theorem metN_in (l : List ND) : ∀ (f m : Nat) (r : Nat × Nat), metN l f m = some r → m < r.2 ∧ r.2 ≤ l.length ∧ 1 ≤ r.1 ∧ r.1 + m ≤ r.2
  | 0, m, r, h => by simp only [metN] at h; cases h
  | f + 1, m, r, h => by
    simp only [metN] at h
    cases hd : l[m]? with
    | none => rw [hd] at h; cases h
    | some d =>
      rw [hd] at h
      have hm := (List.getElem?_eq_some_iff.1 hd).1
      simp only at h
      split at h
      · obtain ⟨x, hx, rfl⟩ := Option.map_eq_some_iff.1 h
        obtain ⟨k1, k2, k3, k4⟩ := metL_in (l := l) (fun n r hr => metN_in l f n r hr) d.kids (m + 1) 0 x hm hx
        simp only
        refine ⟨by omega, k2, by omega, ?_⟩
        rcases k4 with k4 | k4 <;> omega
      · cases h
end Go.Proofs.YtidkbodmiegbkaaGreatDoor
