/- - - - - - -/
import Derived.Test.YtpkggobhhieeoaaDoorKM6
import Derived.Test.YtpkggobhhieeoaaDoorKM4
set_option maxRecDepth 100000
set_option maxHeartbeats 32000000
set_option linter.unusedSimpArgs false
set_option linter.unusedVariables false
namespace Go.Proofs.YtpkggobhhieeoaaDoor
open Go.RowKit
structure Bx (w : World) (B : Nat) (v : Value) (at_ err : Int) : Prop where
  e : Blk w B 69 #[v]
  at_ : Blk w (B + 1) 3 #[.int .i64 at_]
  err : Blk w (B + 2) 23 #[.int .i64 err]
theorem Bx.below {w w' : World} {B : Nat} {v : Value} {a e : Int} (h : Bx w B v a e) {C : Nat} (hb : Below C w w') (hC : B + 2 < C) : Bx w' B v a e :=
  ⟨h.e.below hb (by omega), h.at_.below hb (by omega), h.err.below hb hC⟩
theorem Bx.new (w : World) : Bx (((w.alloc (.cells #[.slice none 0 0] 69)).alloc (.cells #[.int .i64 0] 3)).alloc (.cells #[.int .i64 0] 23)) w.heap.size (.slice none 0 0) 0 0 :=
  ⟨((Blk.new _ _ _).alloc _).alloc _, (Blk.new_ (by simp) _ _).alloc _, Blk.new_ (by simp) _ _⟩
theorem Bx.cells {w : World} {B : Nat} {v : Value} {a e : Int} (h : Bx w B v a e) : w.cell? ⟨B, 0, none⟩ = some v ∧ w.cell? ⟨B + 1, 0, none⟩ = some (.int .i64 a) ∧ w.cell? ⟨B + 2, 0, none⟩ = some (.int .i64 e) ∧ w.frozen? ⟨B, 0, none⟩ = false ∧ w.frozen? ⟨B + 1, 0, none⟩ = false ∧ w.frozen? ⟨B + 2, 0, none⟩ = false ∧ B + 2 < w.heap.size :=
  ⟨h.e.cell rfl, h.at_.cell rfl, h.err.cell rfl, h.e.frozen 0, h.at_.frozen 0, h.err.frozen 0, h.err.lt⟩
theorem Bx.set {w : World} {B : Nat} {v : Value} {a e : Int} (h : Bx w B v a e) (v' : Value) (a' e' : Int) : Bx (((w.setCell ⟨B, 0, none⟩ v').setCell ⟨B + 1, 0, none⟩ (.int .i64 a')).setCell ⟨B + 2, 0, none⟩ (.int .i64 e')) B v' a' e' ∧ Below B w (((w.setCell ⟨B, 0, none⟩ v').setCell ⟨B + 1, 0, none⟩ (.int .i64 a')).setCell ⟨B + 2, 0, none⟩ (.int .i64 e')) :=
  ⟨⟨by have := ((h.e.set_ 0 v').far (p := ⟨B + 1, 0, none⟩) (by show B ≠ B + 1; omega) (.int .i64 a')).far (p := ⟨B + 2, 0, none⟩) (by show B ≠ B + 2; omega) (.int .i64 e'); simpa using this,
    by have := ((h.at_.far (p := ⟨B, 0, none⟩) (by show B + 1 ≠ B; omega) v').set_ 0 (.int .i64 a')).far (p := ⟨B + 2, 0, none⟩) (by show B + 1 ≠ B + 2; omega) (.int .i64 e'); simpa using this,
    by have := ((h.err.far (p := ⟨B, 0, none⟩) (by show B + 2 ≠ B; omega) v').far (p := ⟨B + 1, 0, none⟩) (by show B + 2 ≠ B + 1; omega) (.int .i64 a')).set_ 0 (.int .i64 e'); simpa using this⟩,
   (((Below.refl B w).setCell (p := ⟨B, 0, none⟩) (Nat.le_refl B) _).setCell (p := ⟨B + 1, 0, none⟩) (Nat.le_succ B) _).setCell (p := ⟨B + 2, 0, none⟩) (by show B ≤ B + 2; omega) _⟩
theorem Bx.set2 {w : World} {B : Nat} {v : Value} {a e : Int} (h : Bx w B v a e) (a' e' : Int) : Bx ((w.setCell ⟨B + 1, 0, none⟩ (.int .i64 a')).setCell ⟨B + 2, 0, none⟩ (.int .i64 e')) B v a' e' ∧ Below B w ((w.setCell ⟨B + 1, 0, none⟩ (.int .i64 a')).setCell ⟨B + 2, 0, none⟩ (.int .i64 e')) :=
  ⟨⟨by have := (h.e.far (p := ⟨B + 1, 0, none⟩) (by show B ≠ B + 1; omega) (.int .i64 a')).far (p := ⟨B + 2, 0, none⟩) (by show B ≠ B + 2; omega) (.int .i64 e'); simpa using this,
    by have := (h.at_.set_ 0 (.int .i64 a')).far (p := ⟨B + 2, 0, none⟩) (by show B + 1 ≠ B + 2; omega) (.int .i64 e'); simpa using this,
    by have := (h.err.far (p := ⟨B + 1, 0, none⟩) (by show B + 2 ≠ B + 1; omega) (.int .i64 a')).set_ 0 (.int .i64 e'); simpa using this⟩,
   ((Below.refl B w).setCell (p := ⟨B + 1, 0, none⟩) (Nat.le_succ B) _).setCell (p := ⟨B + 2, 0, none⟩) (by show B ≤ B + 2; omega) _⟩
theorem catch_wrong (B : Nat) (k a0 e0 : Int) (older : List PanicEntry) (w : World) (v : Value) (hv : ∃ a n c, v = .slice a n c) (hb : Bx w B v a0 e0) :
    CallsD Tryd.prog 54 #[.pointer (some ⟨B, 0, none⟩), .pointer (some ⟨B + 1, 0, none⟩), .pointer (some ⟨B + 2, 0, none⟩)] (.panicking ({ v := .iface 98 (.agg #[.int .i64 k]), recovered := false } :: older)) w fun e u' w' =>
      e = .returned (.tuple #[]) ∧ u' = .panicking ({ v := .iface 98 (.agg #[.int .i64 k]), recovered := true } :: older) ∧ Below B w w' ∧ Bx w' B (.slice none 0 0) k 80 := by
  obtain ⟨q0, q1, q2, f0, f1, f2, lg⟩ := hb.cells
  have l0 : B < w.heap.size := by omega
  have l1 : B + 1 < w.heap.size := by omega
  have Hb := zH hb
  clear hb
  have has : ∀ (v : Value) (W : World), (Instr.typeAssert (.iface 98 v) 20 98 true).run Tryd.prog W = .ok (.tuple #[v, .bool true]) W := by intros; kernel_rfl
  refine callsD_of_wpS Tryd.func54 rfl fun c₀ cs hu => ?_
  simp only [Tryd.ntmps54, List.size_toArray, List.length_cons, List.length_nil, Nat.reduceAdd, Nat.reduceSub, Array.replicate_succ, Array.replicate_zero, List.push_toArray, List.append_toArray, List.nil_append, List.cons_append]
  apply wpS_seq
  apply wpS_region
  simp [wpOpsS, go_sem, recoverD, hu, Exit.thenS]
  refine wpS_of_wp ?_
  obtain ⟨va, vn, vc, rfl⟩ := hv
  go_wp2_with fail
  go_region
  all_goals
    have HK := Hb.out.set (.slice none 0 0) k 80
    have h1 : Below B w ((((w.setCell ⟨B, 0, none⟩ (.slice none 0 0)).setCell ⟨B + 1, 0, none⟩ (.int .i64 k)).setCell ⟨B + 2, 0, none⟩ (.int .i64 80)).alloc (.cells #[.int .i64 k] 98)).drew := (HK.2.alloc (Nat.le_of_lt (Nat.lt_of_lt_of_le l0 HK.2.size)) _).drew
    have h2 : Bx ((((w.setCell ⟨B, 0, none⟩ (.slice none 0 0)).setCell ⟨B + 1, 0, none⟩ (.int .i64 k)).setCell ⟨B + 2, 0, none⟩ (.int .i64 80)).alloc (.cells #[.int .i64 k] 98)).drew B (.slice none 0 0) k 80 := HK.1.below (zB.alloc zL _).drew HK.1.err.lt
    have h3 := And.intro h1 h2
    clear h1 h2 HK
    generalize World.drew _ = wz at h3 ⊢
    clear q0 q1 q2 f0 f1 f2 lg l0 l1 Hb has
    obtain ⟨k1, k2, k3, k4, k5, k6, k7⟩ := c₀
    simp (config := { zetaDelta := true }) [bodyPostS, results, Tryd.results54]
    exact h3
theorem catch_idle (a b c : Value) (w : World) :
    CallsD Tryd.prog 54 #[a, b, c] .returning w fun e u' w' => e = .returned (.tuple #[]) ∧ u' = .returning ∧ w' = w := by
  refine callsD_of_wpS Tryd.func54 rfl fun c₀ cs hu => ?_
  simp only [Tryd.ntmps54, List.size_toArray, List.length_cons, List.length_nil, Nat.reduceAdd, Nat.reduceSub, Array.replicate_succ, Array.replicate_zero, List.push_toArray, List.append_toArray, List.nil_append, List.cons_append]
  apply wpS_seq
  apply wpS_region
  simp [wpOpsS, go_sem, recoverD, hu, Exit.thenS]
  refine wpS_of_wp ?_
  go_wp2_with fail
  cases c₀
  simp_all [bodyPostS, results, Tryd.results54]
end Go.Proofs.YtpkggobhhieeoaaDoor
namespace Go.Proofs.YtpkggobhhieeoaaDoor
open Go.RowKit
theorem info_enode : (Tryd.prog.info? 116).map (fun i => (i.zero, i.size, i.bytes)) = some (some (.agg #[.int .i64 0, .string .empty, .int .i64 0, .slice none 0 0]), 4, 56) := by kernel_rfl
theorem info_int : (Tryd.prog.info? 3).map (fun i => (i.zero, i.size, i.bytes)) = some (some (.int .i64 0), 1, 8) := by kernel_rfl
theorem IsEN.one : ∀ x y, IsEN x y → ∀ u ∈ x, u.oneCell' = true := by
  intro x y h u hu
  obtain ⟨rfl, a, n, c, h2⟩ := h
  rw [h2] at hu
  simp at hu
  rcases hu with rfl | rfl | rfl | rfl <;> rfl
theorem IsNat.one : ∀ x y, IsNat x y → ∀ u ∈ x, u.oneCell' = true := by
  intro x y h u hu
  unfold IsNat at h
  subst h
  simp at hu
  subst hu
  rfl
def FlatIs (B : Nat) (X : World) (t : Tr) (es : List (EN × Value)) (e : Ending) (w' : World) : Prop :=
  ∃ (v' : Value) (es' : List (EN × Value)), e = .returned (.tuple #[v', .int .i64 (t.deep : Int)]) ∧ EL w' B v' (es ++ es') ∧ es'.map (·.1) = t.flat es.length ∧ Below B X w'
theorem p_flat (lo : Nat) (W0 : World) : ∀ (N : Nat) (t : Tr) (g : Nat) (X : World) (v : Value) (es : List (EN × Value)), t.size ≤ N → TreeAt W0 lo t g → Below W0.heap.size W0 X → EL X W0.heap.size v es → es.length + t.size ≤ 5000 →
    Calls Tryd.prog 57 #[.pointer (some ⟨g, 0, none⟩), v] X (FlatIs W0.heap.size X t es) := by
  intro N
  induction N with
  | zero => intro t g X v es h; have := size_pos t; omega
  | succ N ih =>
  intro t g X v es hN ht hX hE hsz
  obtain ⟨kd, s, nm, ks⟩ := t
  simp only [TreeAt, TreeIn] at ht
  obtain ⟨_, kv, gs, hbox, hrow, _, htr⟩ := ht
  have hszk : sizeL ks ≤ N := by simp only [Tr.size] at hN; omega
  simp only [Tr.size] at hsz
  obtain ⟨a, c, rfl⟩ := hE.main.form
  obtain ⟨p, hp⟩ : ∃ p, es.length = p := ⟨_, rfl⟩
  obtain ⟨ka, kc, rfl⟩ := hrow.form
  obtain ⟨m, hm⟩ : ∃ m, gs.length = m := ⟨_, rfl⟩
  have hmk : ks.length = m := by rw [← hm]; exact (TreesIn.len htr).symm
  have b0 : Blk X g 126 _ := hbox.below hX hbox.lt
  have c0 : X.cell? ⟨g, 0, none⟩ = some (.int .i64 (kd : Int)) := b0.cell rfl
  have c1 : X.cell? ⟨g, 1, none⟩ = some (.string (txt s)) := b0.cell rfl
  have c2 : X.cell? ⟨g, 2, none⟩ = some (.int .i64 nm) := b0.cell rfl
  have c3 : X.cell? ⟨g, 3, none⟩ = some (.slice none 0 0) := b0.cell rfl
  have lg : g < W0.heap.size := hbox.lt
  have HBX := zH hbox
  have HIH := zH ih
  have HX := zH hX
  have HEM : Hid (EL X W0.heap.size (.slice a p c) es) := zH (by rw [← hp]; exact hE)
  have HE := zH hE
  have HROW := zH (hrow.read (by omega))
  have HTR := zH htr
  have Hp := zH hp
  have Hm := zH hm
  have Hmk := zH hmk
  rw [hp] at hsz ⊢
  rw [hm] at HROW HBX
  have m63 : m ≤ 9223372036854775807 := by have := HROW.out.caps; unfold maxLen at this; omega
  have p5 : (p : Int) ≤ 5000 := by omega
  obtain ⟨jE, hi, hz, hs2, hby⟩ := info_parts info_enode
  have IE := zH (And.intro hi (And.intro hz (And.intro hs2 hby)))
  clear hi hz hs2 hby
  obtain ⟨jI, hi, hz, hs2, hby⟩ := info_parts info_int
  have II := zH (And.intro hi (And.intro hz (And.intro hs2 hby)))
  clear hi hz hs2 hby ih hX hE hrow htr hp hm hmk hbox b0 hN
  go_enter Tryd.func57, Tryd.ntmps57
  go_wp2_with (first
    | (at_builtin; refine wpList_append_list rfl (.tmp 14) (.tmp 19) _ rfl W0.heap.size (X.heap.size + 1) 116 jE _ 4 56 Tryd.underlying67 IE.out.1 IE.out.2.1 IE.out.2.2.1 IE.out.2.2.2 rfl (by omega) (R := IsEN) (l := es) (m := [(⟨kd, s, nm, []⟩, .slice none 0 0)]) (.slice a p c) ?_ (by exact HEM.out.main.alloc (.cells #[.int .i64 (kd : Int), .string (txt s), .int .i64 nm, .slice none 0 0] 116)) (some ⟨X.heap.size, 0, none⟩) 1 1 ?_ (by exact SlR.new1 (x := [.int .i64 (kd : Int), .string (txt s), .int .i64 nm, .slice none 0 0]) rfl rfl ⟨rfl, _, _, _, rfl⟩) (p + 1) (by rw [Hp.out]) IsEN.one (by rw [Hp.out]; unfold maxLen; omega) (by rw [Hp.out]; omega) (by have := HX.out.size; rw [World.size_alloc]; omega) ?_; rfl; rfl; intro oa oc w2 hown hgr; have O2 := zH (And.intro hown hgr); have B2 : Below W0.heap.size X w2 := ((Below.refl W0.heap.size X).alloc HX.out.size _).grown hgr (by have := HX.out.size; rw [World.size_alloc]; omega) (fun g' hg' => (HEM.out.main.block g' hg').1); have c4 : w2.cell? ⟨g, 4, none⟩ = some (.slice ka m kc) := (HBX.out.below (HX.out.trans B2) lg).cell rfl; have HB2 := zH B2; clear B2 hown hgr))
  have E2 : Hid (EL w2 W0.heap.size (.slice oa (p + 1) oc) (es ++ [(⟨kd, s, nm, []⟩, .slice none 0 0)])) := zH ((HEM.out.alloc (.cells #[.int .i64 (kd : Int), .string (txt s), .int .i64 nm, .slice none 0 0] 116)).push rfl (by have := O2.out.1; exact this) (by have := O2.out.2; exact this))
  clear c0 c1 c2 c3 c4 O2
  go_loopw [1, 7, 9, 10, 11, 26] (fun v d _ _ _ i wr => ∃ (j : Nat) (a' : Option Addr) (n' c' : Nat) (kv : Value) (es2 : List (EN × Value)), j ≤ m ∧ i = .int .i64 (j : Int) ∧ v = .slice a' n' c' ∧ d = .int .i64 (deepL (ks.take j) : Int) ∧ Hid (n' = p + 1 + sizeL (ks.take j)) ∧ Hid (EL wr W0.heap.size (.slice a' n' c') (es ++ (⟨kd, s, nm, placesL (ks.take j) (p + 1)⟩, kv) :: es2)) ∧ Hid (es2.map (·.1) = flatL (ks.take j) (p + 1)) ∧ Hid (Below W0.heap.size X wr)) (fun _ _ _ _ _ i _ => m - (intOf i).toNat)
  case atStart => exact ⟨0, oa, p + 1, oc, .slice none 0 0, [], Nat.zero_le _, rfl, rfl, rfl, zH (by simp [sizeL]), E2, zH (by simp [flatL]), HB2⟩
  case round =>
    obtain ⟨j, a', n', c', kv, es2, hj, rfl, rfl, rfl, hn', hEL, hes2, hB⟩ := hrel
    have HN := hn'
    have HEL := hEL
    have HES := hes2
    have HB := hB
    clear hn' hEL hes2 hB E2 HB2
    by_cases hlt : j < m
    · obtain ⟨gk, hgk⟩ := get_some Hm.out hlt
      obtain ⟨tk, htk⟩ := get_some Hmk.out hlt
      have hLp := get_mid es es2 (⟨kd, s, nm, placesL (ks.take j) (p + 1)⟩, kv) p Hp.out
      obtain ⟨gm, rfl, hgm, hgml, hfz, hat⟩ := HEL.out.main.at00 (by simp; omega) (by omega)
      obtain ⟨x0, hx0, ⟨rfl, ak, nk, ck, hkv⟩, hc0⟩ := hat p _ hLp
      simp only at hkv
      subst hkv
      have u3 : wr.cell? ⟨gm, p * 4 + 3, none⟩ = some (.slice ak nk ck) := hc0 3 _ rfl
      have hnk : nk = (placesL (ks.take j) (p + 1)).length := by
        obtain ⟨a9, c9, h9⟩ := (HEL.out.kids p _ hLp).form
        injection h9
      have hszj := sizeL_take_le ks j
      have hpl : (placesL (ks.take j) (p + 1)).length ≤ 5000 := by rw [placesL_len]; have := len_le_size (ks.take j); omega
      have hn5 : n' ≤ 5000 := by have := HN.out; omega
      have hpn : (p : Int) < (n' : Int) := by have := HN.out; omega
      have hpn2 : p < n' := by have := HN.out; omega
      have p0 : (0 : Int) ≤ (p : Int) := Int.natCast_nonneg _
      obtain ⟨b1, off1, x1, rfl, hb1, hx1, rfl, hc1⟩ := (HROW.out.below (HX.out.trans (HB.out.mono zL))).at_ hgk
      have k0 := hc1 0 _ rfl
      simp only [Nat.add_zero, Nat.mul_one] at k0
      have HLp := zH hLp
      have Hnk := zH hnk
      have Hpl := zH hpl
      have Htk := zH htk
      have Hgk := zH hgk
      have Hfz := zH hfz
      have Hgml := zH hgml
      clear hx0 hc0 hat hx1 hc1 hLp hnk hpl htk hgk hfz hgm
      go_wp2_with (first
        | (at_builtin; refine wpList_append_list2 rfl (.tmp 36) (.tmp 39) _ rfl W0.heap.size (wr.heap.size + 1) 3 jI _ 1 8 Tryd.underlying114 II.out.1 II.out.2.1 II.out.2.2.1 II.out.2.2.2 rfl (by omega) (R := IsNat) (l := placesL (ks.take j) (p + 1)) (m := [n']) (.slice ak nk ck) ?_ (by exact (HEL.out.kids p _ HLp.out).alloc (.cells #[.int .i64 (n' : Int)] 3)) (some ⟨wr.heap.size, 0, none⟩) 1 1 ?_ (by exact SlR.new1 (x := [.int .i64 (n' : Int)]) rfl rfl rfl) (nk + 1) (by rw [Hnk.out]) IsNat.one (by have := Hpl.out; unfold maxLen; omega) (by have := Hpl.out; omega) (by have := HX.out.size; have := HB.out.size; rw [World.size_alloc]; omega) ?_; rfl; rfl; intro ak2 ck2 w3 hown hgr hat3; have O3 := zH (And.intro hown (And.intro hgr hat3)); have m3 := ((HEL.out.alloc (.cells #[.int .i64 (n' : Int)] 3)).main.kept1 ((HEL.out.alloc (.cells #[.int .i64 (n' : Int)] 3)).kids p _ HLp.out) (by decide) hgr); obtain ⟨gm2, e2, _, _, hfz3, hat4⟩ := m3.at00 (by simp; omega) (by omega); injection e2 with e2; injection e2 with e2; subst e2; obtain ⟨x5, hx5, ⟨rfl, _⟩, hc5⟩ := hat4 p _ HLp.out; have u5 : w3.cell? ⟨gm, p * 4 + 3, none⟩ = some (.slice ak nk ck) := hc5 3 _ rfl; have z5 := hfz3 (p * 4 + 3); clear hown hgr hat3 hfz3 hat4 hx5 hc5))
      have E3 := HEL.out.kid HLp.out ⟨_, _, _, rfl⟩ (.cells #[.int .i64 (n' : Int)] 3) O3.out.1 O3.out.2.1 (by have := O3.out.2.2; rw [World.size_alloc] at this; exact this)
      rw [set_mid es es2 _ _ p Hp.out] at E3
      have B3 : Below W0.heap.size X (w3.setCell ⟨gm, p * 4 + 3, none⟩ (.slice ak2 (nk + 1) ck2)) := (((HB.out.alloc (Nat.le_trans HX.out.size HB.out.size) (.cells #[.int .i64 (n' : Int)] 3)).grown O3.out.2.1 (by have := HX.out.size; have := HB.out.size; rw [World.size_alloc]; omega) (fun g' hg' => ((HEL.out.kids p _ HLp.out).block g' hg').1))).setCell (p := ⟨gm, p * 4 + 3, none⟩) ((HEL.out.main.block gm rfl).1) _
      have hes2 : es2.length = sizeL (ks.take j) := by have := congrArg List.length HES.out; rw [List.length_map, trFlatL_len] at this; exact this
      have htk1 := take_snoc1 Htk.out
      have hszt := sizeL_take_le ks (j + 1)
      rw [htk1, sizeL_app] at hszt
      simp only [sizeL] at hszt
      have HE3 := zH E3
      have HB3 := zH B3
      have HT1 := zH htk1
      have Hes2 := zH hes2
      have CC := HIH.out tk gk _ (.slice (some ⟨gm, 0, none⟩) n' c') _ (Nat.le_trans (size_mem (List.mem_iff_getElem?.2 ⟨j, Htk.out⟩)) hszk) (TreesIn.get HTR.out Htk.out Hgk.out) (HX.out.trans B3) E3 (by rw [List.length_append, Hp.out, List.length_cons, hes2]; omega)
      have HCC := zH CC
      clear E3 B3 htk1 hes2 CC
      refine HCC.out.mono ?_
      rintro e w4 ⟨v4, es4, rfl, hE4, hm4, hB4⟩
      obtain ⟨a4, c4, rfl⟩ := hE4.main.form
      have HE4 := zH hE4
      have HM4 := zH hm4
      have HB4 := zH (HB3.out.trans hB4)
      obtain ⟨n4, hn4⟩ : ∃ z, (es ++ (⟨kd, s, nm, placesL (ks.take j) (p + 1) ++ [n']⟩, Value.slice ak2 (nk + 1) ck2) :: es2 ++ es4).length = z := ⟨_, rfl⟩
      rw [hn4]
      have HN4 := zH hn4
      clear hE4 hm4 hB4 HCC hn4 u3 u5 z5 k0
      go_wp2_with fail
      go_roundw
      case rel =>
        have hn1 : n' = p + 1 + sizeL (ks.take j) := HN.out
        have hpl1 : placesL (ks.take (j + 1)) (p + 1) = placesL (ks.take j) (p + 1) ++ [n'] := by rw [HT1.out, placesL_app, hn1]; rfl
        have hlen4 : es4.length = tk.size := by have := congrArg List.length HM4.out; rw [List.length_map, trFlat_len] at this; exact this
        refine ⟨j + 1, a4, n4, c4, .slice ak2 (nk + 1) ck2, es2 ++ es4, by omega, by go_num, rfl, ?_, zH ?_, zH ?_, zH ?_, HB4⟩
        · rw [HT1.out, deepL_app]
          simp only [deepL]
          congr 1
          split <;> omega
        · rw [← HN4.out, HT1.out, sizeL_app]
          simp only [List.length_append, List.length_cons, sizeL, Hp.out, Hes2.out, hlen4]
          omega
        · rw [hpl1]
          have := HE4.out
          rw [HN4.out] at this
          rw [List.append_assoc, List.cons_append] at this
          exact this
        · rw [List.map_append, HES.out, HM4.out, HT1.out, flatL_app]
          simp only [List.length_append, List.length_cons, Hp.out, Hes2.out, flatL, List.append_nil]
          congr 2
          omega
      case measure => simp [intOf]; omega
    · have hjm : j = m := by omega
      subst hjm
      clear hlt
      have hsz2 := hsz
      have hdd : deepL (ks.take j) ≤ 5000 := by have := deepL_le (ks.take j); have := sizeL_take_le ks j; omega
      have hd63 : (deepL (ks.take j) : Int) ≤ 5000 := by omega
      have hd0 : (0 : Int) ≤ (deepL (ks.take j) : Int) := Int.natCast_nonneg _
      have htk : ks.take j = ks := List.take_of_length_le (by rw [Hmk.out]; exact Nat.le_refl _)
      have HTK := zH htk
      clear htk hdd
      go_wp2_with fail
      go_ret2
      refine ⟨.slice a' n' c', (⟨kd, s, nm, placesL (ks.take j) (p + 1)⟩, kv) :: es2, ?_, HEL.out, ?_, HB.out⟩
      · show Ending.returned (.tuple #[.slice a' n' c', .int .i64 ((deepL (ks.take j) : Int) + 1)]) = _
        rw [HTK.out]
        rfl
      · rw [List.map_cons, HES.out, HTK.out, Hp.out]
        rfl
end Go.Proofs.YtpkggobhhieeoaaDoor
namespace Go.Proofs.YtpkggobhhieeoaaDoor
theorem step_good {r : List Nat} {k n : Nat} {s : List Nat} {v : Int} {p : Int} (h : stepP r = (some (k, s, v), n)) : TokG ⟨k, s, v, p⟩ := by
  unfold TokG
  simp only
  unfold stepP at h
  split at h
  · simp at h
  · rename_i c t
    split at h
    · split at h
      · injection h with h1 h2
        injection h1 with h1
        injection h1 with h1 h3
        injection h3 with h3 h4
        left
        exact ⟨by rw [← h1]; rfl, by rw [← h4]; exact Int.natCast_nonneg _⟩
      · simp at h
    · split at h
      · split at h
        · injection h with h1 h2
          injection h1 with h1
          injection h1 with h1 h3
          injection h3 with h3 h4
          by_cases hw : (c :: t).takeWhile furtherN ∈ wordsL
          · rw [if_pos hw] at h1
            exact .inr (.inr (.inr (.inl ⟨by rw [← h1]; rfl, by rw [← h3]; exact hw⟩)))
          · rw [if_neg hw] at h1
            exact .inr (.inr (.inl (by rw [← h1]; rfl)))
        · simp at h
      · split at h
        · simp at h
        · rename_i hm
          injection h with h1 h2
          injection h1 with h1
          injection h1 with h1 h3
          injection h3 with h3 h4
          refine .inr (.inr (.inr (.inr ⟨by rw [← h1]; rfl, ?_⟩)))
          rw [← h3]
          unfold markN at hm ⊢
          cases hf : marksL.find? (fun m => m.isPrefixOf (c :: t)) with
          | none => rw [hf] at hm; exfalso; revert hm; simp only; split <;> simp
          | some m => exact List.mem_of_find?_eq_some hf
theorem scanT_good {l : List Nat} (hl : Bytes l) : ∀ (f i : Nat) (o : List Tok), (∀ t ∈ o, TokG t) → o.length ≤ i → i ≤ l.length → (scanT l f i o).2.2 = 0 → (∀ t ∈ (scanT l f i o).1, TokG t) ∧ (scanT l f i o).1.length ≤ l.length
  | 0, i, o, ho, hi, hil, _ => ⟨by rw [scanT]; exact ho, by rw [scanT]; simp only; omega⟩
  | f + 1, i, o, ho, hi, hil, he => by
    rw [scanT] at he ⊢
    cases hc : l[i]? with
    | none => exact ⟨ho, by simp only; omega⟩
    | some c =>
      rw [hc] at he
      have hlt := (List.getElem?_eq_some_iff.1 hc).1
      simp only at he ⊢
      by_cases h1 : c = 32 ∨ c = 10
      · rw [if_pos h1] at he ⊢
        exact scanT_good hl f (i + 1) o ho (by omega) (by omega) he
      · rw [if_neg h1] at he ⊢
        by_cases h2 : c = 34
        · rw [if_pos h2] at he ⊢
          by_cases h3 : (quoteAt l i).2.2 = 0
          · rw [if_pos h3] at he ⊢
            obtain ⟨a1, a2, a3⟩ := unq_some (l.length + 1) (i + 1) l [] (quoteAt l i).1 (quoteAt l i).2.1 hl (fun x hx => by cases hx) (by show quoteAt l i = _; rw [← h3])
            refine scanT_good hl f _ _ (fun t ht => ?_) (by simp; omega) a3 he
            rcases List.mem_append.1 ht with ht | ht
            · exact ho t ht
            · simp at ht
              subst ht
              exact .inr (.inl rfl)
          · rw [if_neg h3] at he
            simp at he
        · rw [if_neg h2] at he ⊢
          cases hs : (stepP (l.drop i)).1 with
          | none => rw [hs] at he; simp at he
          | some x =>
            obtain ⟨k, s, v⟩ := x
            rw [hs] at he
            simp only at he ⊢
            have hst : stepP (l.drop i) = (some (k, s, v), (stepP (l.drop i)).2) := by rw [← hs]
            obtain ⟨b1, b2, _⟩ := step_some (fun x hx => hl x (List.mem_of_mem_drop hx)) hst
            rw [List.length_drop] at b2
            refine scanT_good hl f _ _ (fun t ht => ?_) (by simp; omega) (by omega) he
            rcases List.mem_append.1 ht with ht | ht
            · exact ho t ht
            · simp at ht
              subst ht
              exact step_good hst
theorem scanT_place {l : List Nat} : ∀ (f i : Nat) (o : List Tok), (∀ t ∈ o, 0 ≤ t.place) → ∀ t ∈ (scanT l f i o).1, 0 ≤ t.place
  | 0, i, o, ho => by rw [scanT]; exact ho
  | f + 1, i, o, ho => by
    have snoc : ∀ (x : Tok), 0 ≤ x.place → ∀ t ∈ o ++ [x], 0 ≤ t.place := fun x hx t ht => by
      rcases List.mem_append.1 ht with ht | ht
      · exact ho t ht
      · simp at ht; subst ht; exact hx
    rw [scanT]
    cases hc : l[i]? with
    | none => exact ho
    | some c =>
      simp only
      by_cases h1 : c = 32 ∨ c = 10
      · rw [if_pos h1]; exact scanT_place f (i + 1) o ho
      · rw [if_neg h1]
        by_cases h2 : c = 34
        · rw [if_pos h2]
          by_cases h3 : (quoteAt l i).2.2 = 0
          · rw [if_pos h3]; exact scanT_place f _ _ (snoc _ (Int.natCast_nonneg _))
          · rw [if_neg h3]; intro t ht; cases ht
        · rw [if_neg h2]
          cases hs : (stepP (l.drop i)).1 with
          | none => intro t ht; cases ht
          | some x =>
            obtain ⟨k, s, v⟩ := x
            exact scanT_place f _ _ (snoc _ (Int.natCast_nonneg _))
theorem scan_place {l : List Nat} : ∀ t ∈ (scanN l).1, 0 ≤ t.place := by
  unfold scanN
  split
  · intro t ht; cases ht
  · exact scanT_place _ _ _ (fun t ht => by cases ht)
theorem scan_good {l : List Nat} (hl : Bytes l) (he : (scanN l).2.2 = 0) : (∀ t ∈ (scanN l).1, TokG t) ∧ (scanN l).1.length ≤ 4096 ∧ l.length ≤ 4096 := by
  unfold scanN at he ⊢
  by_cases h : 4096 < l.length
  · rw [if_pos h] at he; simp at he
  · rw [if_neg h] at he ⊢
    obtain ⟨h1, h2⟩ := scanT_good hl (l.length + 1) 0 [] (by simp) zL (Nat.zero_le _) he
    exact ⟨h1, by omega, by omega⟩
end Go.Proofs.YtpkggobhhieeoaaDoor
namespace Go.Proofs.YtpkggobhhieeoaaDoor
open Go.RowKit
section
variable {q : Nat} {a : Option Addr} {c sz : Nat} {l : List Tok} {i : Nat} {W : World}
def markR (l : List Tok) (f i : Nat) (s : List Nat) : PR :=
  if s = minusT then (match l[i + 1]? with
    | some x => if x.kind = 1 then .ok (.node 1 [] (-x.num) []) (i + 2) else .no (i + 1)
    | none => .no (i + 1))
  else if s = openT then (pL l f 1 (i + 1)).bind fun k j => want l j closeT (.ok k (j + 1))
  else .no i
theorem isT_at {t : Tok} (ht : l[i]? = some t) (s : List Nat) : isT l i s = (decide (4 ≤ t.kind) && decide (t.text = s)) := by unfold isT; rw [ht]
theorem p_mark {t : Tok} (ht : l[i]? = some t) (hk : t.kind = 5) (f : Nat) (HO : LevelC q a c sz l 55 (fun i => pL l f 1 i)) (h : PSt q a c sz l i W) (hr : markR l f i t.text ≠ .out) :
    Calls Tryd.prog 112 #[.pointer (some ⟨q, 0, none⟩)] W (Reads q a c sz l W (markR l f i t.text)) := by
  have H := zH h
  have QL := zH h.box.lt
  have hlt := (List.getElem?_eq_some_iff.1 ht).1
  have hfew := h.few
  have hb : isT l i minusT = decide (t.text = minusT) := by rw [isT_at ht, hk]; rfl
  have hb2 : isT l i openT = decide (t.text = openT) := by rw [isT_at ht, hk]; rfl
  have hnx : (txt minusT) = ⟨#[45]⟩ := by decide
  have hno : (txt openT) = ⟨#[40]⟩ := by decide
  have hnc : (txt closeT) = ⟨#[41]⟩ := by decide
  obtain ⟨tt, htt⟩ : ∃ k, t.text = k := ⟨_, rfl⟩
  rw [htt] at hr hb hb2 ⊢
  unfold markR at hr ⊢
  by_cases hm : tt = minusT
  · rw [if_pos hm] at hr ⊢
    rw [decide_eq_true hm] at hb
    have HX := zH (p_next minusT (show ∀ n ∈ minusT, n < 256 by decide) true hb h)
    rw [hnx] at HX
    have ST := zH (fun n => h.step (j := i + 1) (u := .int .i64 ((i : Int) + 1)) (by go_num) hlt n)
    obtain ⟨f0, f1, f2, f3, f4⟩ := h.facts
    have i5 : (i : Int) ≤ 5000 := by omega
    have i0 : (0 : Int) ≤ (i : Int) := Int.natCast_nonneg _
    have i00 : (0 : Int) ≤ (i : Int) + 1 := by omega
    obtain ⟨n, hn⟩ : ∃ n, l.length = n := ⟨_, rfl⟩
    have Hn := zH hn
    rw [hn] at f0 hlt hfew
    have n63 : n ≤ 9223372036854775807 := by omega
    by_cases hx : i + 1 < n
    · obtain ⟨x, hx1⟩ := get_some hn hx
      rw [hx1] at hr ⊢
      simp only at hr ⊢
      have HT := zH hx1
      have hg := h.good x (List.mem_iff_getElem?.2 ⟨_, hx1⟩)
      by_cases hk1 : x.kind = 1
      · rw [if_pos hk1] at hr ⊢
        have hnum : 0 ≤ x.num := by unfold TokG at hg; omega
        obtain ⟨xv, hxv⟩ : ∃ k, x.num = k := ⟨_, rfl⟩
        have HV := zH hxv
        rw [hxv] at hnum ⊢
        have dlt : ((i : Int) + 1 == (n : Int)) = false := by simp; omega
        have dlt2 : (i : Int) + 1 < (n : Int) := by omega
        have HK := zH hk1
        clear h ht hk hfew hb hb2 hnx hno hnc htt hm hn hx1 hg hr hk1 hxv
        go_enter Tryd.func112, Tryd.ntmps112
        go_wp2_with (first
          | (go_at_call 103; (with_reducible refine HX.out.mono ?_); rintro e w1 ⟨rfl, nq, rfl⟩))
        have hS1 := ST.out nq
        generalize hwq : World.setCell _ _ _ = W1
        rw [hwq] at hS1
        clear hwq f0 f1 f2 f3 f4
        have M1 := zH hS1.1
        have P1 := zH hS1.2
        obtain ⟨g0, g1, g2, g3, g4⟩ := hS1.2.facts
        rw [Hn.out] at g0
        have g1' : W1.cell? ⟨q, 1, none⟩ = some (.int .i64 ((i : Int) + 1)) := g1
        clear g1 hS1
        obtain ⟨b1, o1, e1, t0, t1, t2, _, hok⟩ := P1.out.tok HT.out
        subst e1
        rw [HK.out] at t0
        rw [HV.out] at t2
        have hxr := hok.2.2.2.1
        rw [HV.out] at hxr
        clear hok t1
        go_quiet (fail)
        go_wp2_with fail
        generalize hwq2 : World.setCell _ _ _ = W2
        have hS2 : Mv q W1 W2 ∧ PSt q (some ⟨b1, o1, none⟩) c sz l (i + 2) W2 := by rw [← hwq2]; exact P1.out.step (j := i + 2) (by go_num) (by rw [Hn.out]; omega) _
        clear hwq2 g0 g2 g3 g4 g1' t0 t2
        have M2 := zH hS2.1
        have P2 := zH hS2.2
        obtain ⟨v0, v1, v2, v3, v4⟩ := hS2.2.facts
        rw [Hn.out] at v0
        have v1' : W2.cell? ⟨q, 1, none⟩ = some (.int .i64 ((i : Int) + 2)) := v1
        obtain ⟨b2, o2, e2, _, _, t2, _, _⟩ := hS2.2.tok HT.out
        injection e2 with e2
        injection e2 with e2 e3
        subst e2 e3
        rw [HV.out] at t2
        have ws : IntKind.i64.wrap ((i : Int) + 2 - 1) = (i : Int) + 1 := by rw [IntKind.wrap_i64]; omega
        have hx63 : xv ≤ 9223372036854775807 := by
          have h2 := hxr
          unfold Lit.wf at h2
          rw [Bool.and_eq_true] at h2
          have h3 := of_decide_eq_true h2.2
          have h4 : IntKind.max .i64 = 9223372036854775807 := by decide
          omega
        have wn : IntKind.i64.wrap (-xv) = -xv := by rw [IntKind.wrap_i64]; omega
        clear v1 v2 v3 v4 hS2 hxr
        go_still_tail 15, (by kernel_rfl)
        change wpList _ _ _ _ _ W2.drew
        go_wp2_with fail
        go_ret
        have hbN := ((Below.refl W2.heap.size W2).alloc zL (.cells #[.int .i64 1, .string ⟨#[]⟩, .int .i64 (-xv), .slice none 0 0, .slice none 0 0] 126)).drew
        exact Reads.mk_ (node0 (k := 1) (s := []) (Nat.le_trans M1.out.low.size M2.out.low.size) (Blk.new W2 126 #[.int .i64 1, .string ⟨#[]⟩, .int .i64 (-xv), .slice none 0 0, .slice none 0 0])) ((M1.out.trans M2.out).trans (Mv.of_below hbN (Nat.le_of_lt P2.out.box.lt))) (P2.out.keep hbN)
      · rw [if_neg hk1] at hr ⊢
        have dlt : ((i : Int) + 1 == (n : Int)) = false := by simp; omega
        have dlt2 : (i : Int) + 1 < (n : Int) := by omega
        obtain ⟨kd, hkd⟩ : ∃ k, x.kind = k := ⟨_, rfl⟩
        have HK := zH hkd
        rw [hkd] at hk1
        have d1 : (kd != 1) = true := by simpa using hk1
        clear h ht hk hfew hb hb2 hnx hno hnc htt hm hn hx1 hg hr hk1 hkd
        go_enter Tryd.func112, Tryd.ntmps112
        go_wp2_with (first
          | (go_at_call 103; (with_reducible refine HX.out.mono ?_); rintro e w1 ⟨rfl, nq, rfl⟩))
        have hS1 := ST.out nq
        generalize hwq : World.setCell _ _ _ = W1
        rw [hwq] at hS1
        clear hwq f0 f1 f2 f3 f4
        have M1 := zH hS1.1
        have P1 := zH hS1.2
        obtain ⟨g0, g1, g2, g3, g4⟩ := hS1.2.facts
        rw [Hn.out] at g0
        have g1' : W1.cell? ⟨q, 1, none⟩ = some (.int .i64 ((i : Int) + 1)) := g1
        clear g1 hS1
        obtain ⟨b1, o1, e1, t0, t1, t2, _, hok⟩ := P1.out.tok HT.out
        subst e1
        rw [HK.out] at t0
        clear hok t1 t2
        go_quiet (fail)
        go_wp2_with (first
          | (go_at_call 56; (refine (p_give (P1.out.quiet ⟨_, rfl⟩)).mono ?_); rintro e w2 ⟨rfl, q2⟩; have Q2 := zH q2; clear q2))
        exact ⟨rfl, rfl, M1.out.trans ((Mv.quiet ⟨_, rfl⟩).trans (Mv.quiet Q2.out))⟩
    · have hnone : l[i + 1]? = none := List.getElem?_eq_none (by omega)
      rw [hnone] at hr ⊢
      simp only at hr ⊢
      obtain rfl : n = i + 1 := by omega
      have dlt : ((i : Int) + 1 == ((i + 1 : Nat) : Int)) = true := by simp
      clear h ht hk hfew hb hb2 hnx hno hnc htt hm hn hr hnone hx
      go_enter Tryd.func112, Tryd.ntmps112
      go_wp2_with (first
        | (go_at_call 103; (with_reducible refine HX.out.mono ?_); rintro e w1 ⟨rfl, nq, rfl⟩))
      have hS1 := ST.out nq
      generalize hwq : World.setCell _ _ _ = W1
      rw [hwq] at hS1
      clear hwq f0 f1 f2 f3 f4
      have M1 := zH hS1.1
      have P1 := zH hS1.2
      obtain ⟨g0, g1, g2, g3, g4⟩ := hS1.2.facts
      rw [Hn.out] at g0
      have g1' : W1.cell? ⟨q, 1, none⟩ = some (.int .i64 ((i : Int) + 1)) := g1
      clear g1 hS1
      go_quiet (fail)
      go_wp2_with (first
        | (go_at_call 56; (refine (p_give (P1.out.quiet ⟨_, rfl⟩)).mono ?_); rintro e w2 ⟨rfl, q2⟩; have Q2 := zH q2; clear q2))
      exact ⟨rfl, rfl, M1.out.trans ((Mv.quiet ⟨_, rfl⟩).trans (Mv.quiet Q2.out))⟩
  · rw [if_neg hm] at hr ⊢
    rw [decide_eq_false hm] at hb
    have HX := zH (p_next minusT (show ∀ n ∈ minusT, n < 256 by decide) false hb h)
    rw [hnx] at HX
    by_cases ho : tt = openT
    · rw [if_pos ho] at hr ⊢
      rw [decide_eq_true ho] at hb2
      have HA : Hid (∀ X, Quiet W X → Calls Tryd.prog 114 #[.pointer (some ⟨q, 0, none⟩), .string ⟨#[40]⟩] X fun e w' => e = .returned (.tuple #[]) ∧ Mv q X w' ∧ PSt q a c sz l (i + 1) w') := zH (fun X hX => by rw [← hno]; exact p_want_yes openT (show ∀ n ∈ openT, n < 256 by decide) hb2 (h.quiet hX))
      obtain ⟨r, hrr⟩ : ∃ r, pL l f 1 (i + 1) = r := ⟨_, rfl⟩
      have hne : r ≠ .out := fun e => hr (by rw [hrr, e]; rfl)
      have HC1 : Hid (∀ X, PSt q a c sz l (i + 1) X → Calls Tryd.prog 55 #[.pointer (some ⟨q, 0, none⟩)] X (Reads q a c sz l X r)) := zH (fun X hX => by rw [← hrr]; exact HO (i + 1) X hX (by show pL l f 1 (i + 1) ≠ .out; rw [hrr]; exact hne))
      rw [hrr]
      have tokA : True := trivial
      cases r with
      | out => exact absurd rfl hne
      | no j =>
        clear HO h ht hk hfew hb hb2 hnx hno hnc htt hm ho hr hlt hrr hne
        go_enter Tryd.func112, Tryd.ntmps112
        go_wp2_with (first
          | (go_at_call 103; (with_reducible refine HX.out.mono ?_); rintro e w1 ⟨rfl, nq, rfl⟩; have Q1 : Hid (Quiet W (W.drewN nq)) := zH ⟨nq, rfl⟩)
          | (go_at_call 114; have _t := tokA; refine (HA.out _ Q1.out).mono ?_; rintro e w2 ⟨rfl, h2, h3⟩; have M2 := zH h2; have P2 := zH h3; clear h2 h3 tokA _t)
          | (go_at_call 55; refine (HC1.out _ P2.out).mono ?_; rintro e w3 ⟨rfl, h2⟩; have M3 := zH h2; clear h2))
        exact ⟨rfl, rfl, (Mv.quiet Q1.out).trans (M2.out.trans M3.out)⟩
      | ok k j =>
        show Calls _ _ _ _ (Reads q a c sz l W (want l j closeT (.ok k (j + 1))))
        unfold want
        obtain ⟨b, hb3⟩ : ∃ b, isT l j closeT = b := ⟨_, rfl⟩
        cases b with
        | true =>
          rw [hb3, if_pos rfl]
          have HB : Hid (∀ X, PSt q a c sz l j X → Calls Tryd.prog 114 #[.pointer (some ⟨q, 0, none⟩), .string ⟨#[41]⟩] X fun e w' => e = .returned (.tuple #[]) ∧ Mv q X w' ∧ PSt q a c sz l (j + 1) w') := zH (fun X hX => by rw [← hnc]; exact p_want_yes closeT (show ∀ n ∈ closeT, n < 256 by decide) hb3 hX)
          clear HO h ht hk hfew hb hb2 hnx hno hnc htt hm ho hr hlt hrr hne hb3
          go_enter Tryd.func112, Tryd.ntmps112
          go_wp2_with (first
            | (go_at_call 103; (with_reducible refine HX.out.mono ?_); rintro e w1 ⟨rfl, nq, rfl⟩; have Q1 : Hid (Quiet W (W.drewN nq)) := zH ⟨nq, rfl⟩)
            | (go_at_call 114; have _t := tokA; refine (HA.out _ Q1.out).mono ?_; rintro e w2 ⟨rfl, h2, h3⟩; have M2 := zH h2; have P2 := zH h3; clear h2 h3 tokA _t)
            | (go_at_call 55; refine (HC1.out _ P2.out).mono ?_; rintro e w3 h2; obtain ⟨g, rfl, h3, h4, h5⟩ := h2.get; have T3 := zH h3; have M3 := zH h4; have P3 := zH h5; clear h2 h3 h4 h5)
            | (go_at_call 114; refine (HB.out _ P3.out).mono ?_; rintro e w4 ⟨rfl, h2, h3⟩; have M4 := zH h2; have P4 := zH h3; clear h2 h3))
          go_ret
          have q2 : q < w2.heap.size := P2.out.box.lt
          exact Reads.back ((Mv.quiet Q1.out).trans M2.out) (Reads.mk_ (T3.out.high (High.of_mv M4.out q2)) (M3.out.trans M4.out) P4.out)
        | false =>
          rw [hb3, if_neg (by simp)]
          have HB : Hid (∀ X, PSt q a c sz l j X → Calls Tryd.prog 114 #[.pointer (some ⟨q, 0, none⟩), .string ⟨#[41]⟩] X fun e w' => e = .panicked (thrownE (placeAt l sz j)) ∧ Quiet X w') := zH (fun X hX => by rw [← hnc]; exact p_want_no closeT (show ∀ n ∈ closeT, n < 256 by decide) hb3 hX)
          clear HO h ht hk hfew hb hb2 hnx hno hnc htt hm ho hr hlt hrr hne hb3
          go_enter Tryd.func112, Tryd.ntmps112
          go_wp2_with (first
            | (go_at_call 103; (with_reducible refine HX.out.mono ?_); rintro e w1 ⟨rfl, nq, rfl⟩; have Q1 : Hid (Quiet W (W.drewN nq)) := zH ⟨nq, rfl⟩)
            | (go_at_call 114; have _t := tokA; refine (HA.out _ Q1.out).mono ?_; rintro e w2 ⟨rfl, h2, h3⟩; have M2 := zH h2; have P2 := zH h3; clear h2 h3 tokA _t)
            | (go_at_call 55; refine (HC1.out _ P2.out).mono ?_; rintro e w3 h2; obtain ⟨g, rfl, h3, h4, h5⟩ := h2.get; have T3 := zH h3; have M3 := zH h4; have P3 := zH h5; clear h2 h3 h4 h5)
            | (go_at_call 114; refine (HB.out _ P3.out).mono ?_; rintro e w4 ⟨rfl, h2⟩; have M4 := zH h2; clear h2))
          exact ⟨rfl, rfl, (Mv.quiet Q1.out).trans (M2.out.trans (M3.out.trans (Mv.quiet M4.out)))⟩
    · rw [if_neg ho] at hr ⊢
      rw [decide_eq_false ho] at hb2
      have HA : Hid (∀ X, Quiet W X → Calls Tryd.prog 114 #[.pointer (some ⟨q, 0, none⟩), .string ⟨#[40]⟩] X fun e w' => e = .panicked (thrownE (placeAt l sz i)) ∧ Quiet X w') := zH (fun X hX => by rw [← hno]; exact p_want_no openT (show ∀ n ∈ openT, n < 256 by decide) hb2 (h.quiet hX))
      clear HO h ht hk hfew hb hb2 hnx hno hnc htt hm ho hr hlt
      go_enter Tryd.func112, Tryd.ntmps112
      go_wp2_with (first
        | (go_at_call 103; (with_reducible refine HX.out.mono ?_); rintro e w1 ⟨rfl, nq, rfl⟩; have Q1 : Hid (Quiet W (W.drewN nq)) := zH ⟨nq, rfl⟩)
        | (go_at_call 114; refine (HA.out _ Q1.out).mono ?_; rintro e w2 ⟨rfl, h2⟩; have M2 := zH h2; clear h2))
      exact ⟨rfl, rfl, (Mv.quiet Q1.out).trans (Mv.quiet M2.out)⟩
end
end Go.Proofs.YtpkggobhhieeoaaDoor
namespace Go.Proofs.YtpkggobhhieeoaaDoor
open Go.RowKit
theorem p_one_and (W : World) : Calls Tryd.prog 115 #[.string ⟨#[97, 110, 100]⟩] W fun e w' => e = .returned (.tuple #[.int .i64 0, .int .i64 0]) ∧ w' = W := by
  go_enter Tryd.func115, Tryd.ntmps115
  go_wp2_with fail
  go_ret2
  exact ⟨rfl, rfl⟩
theorem p_one_any (W : World) : Calls Tryd.prog 115 #[.string ⟨#[97, 110, 121]⟩] W fun e w' => e = .returned (.tuple #[.int .i64 31, .int .i64 2]) ∧ w' = W := by
  go_enter Tryd.func115, Tryd.ntmps115
  go_wp2_with fail
  go_ret2
  exact ⟨rfl, rfl⟩
theorem p_one_concept (W : World) : Calls Tryd.prog 115 #[.string ⟨#[99, 111, 110, 99, 101, 112, 116]⟩] W fun e w' => e = .returned (.tuple #[.int .i64 17, .int .i64 1]) ∧ w' = W := by
  go_enter Tryd.func115, Tryd.ntmps115
  go_wp2_with fail
  go_ret2
  exact ⟨rfl, rfl⟩
theorem p_one_else (W : World) : Calls Tryd.prog 115 #[.string ⟨#[101, 108, 115, 101]⟩] W fun e w' => e = .returned (.tuple #[.int .i64 0, .int .i64 0]) ∧ w' = W := by
  go_enter Tryd.func115, Tryd.ntmps115
  go_wp2_with fail
  go_ret2
  exact ⟨rfl, rfl⟩
theorem p_one_end (W : World) : Calls Tryd.prog 115 #[.string ⟨#[101, 110, 100]⟩] W fun e w' => e = .returned (.tuple #[.int .i64 0, .int .i64 0]) ∧ w' = W := by
  go_enter Tryd.func115, Tryd.ntmps115
  go_wp2_with fail
  go_ret2
  exact ⟨rfl, rfl⟩
theorem p_one_every (W : World) : Calls Tryd.prog 115 #[.string ⟨#[101, 118, 101, 114, 121]⟩] W fun e w' => e = .returned (.tuple #[.int .i64 32, .int .i64 2]) ∧ w' = W := by
  go_enter Tryd.func115, Tryd.ntmps115
  go_wp2_with fail
  go_ret2
  exact ⟨rfl, rfl⟩
theorem p_one_false (W : World) : Calls Tryd.prog 115 #[.string ⟨#[102, 97, 108, 115, 101]⟩] W fun e w' => e = .returned (.tuple #[.int .i64 4, .int .i64 0]) ∧ w' = W := by
  go_enter Tryd.func115, Tryd.ntmps115
  go_wp2_with fail
  go_ret2
  exact ⟨rfl, rfl⟩
theorem p_one_first (W : World) : Calls Tryd.prog 115 #[.string ⟨#[102, 105, 114, 115, 116]⟩] W fun e w' => e = .returned (.tuple #[.int .i64 15, .int .i64 1]) ∧ w' = W := by
  go_enter Tryd.func115, Tryd.ntmps115
  go_wp2_with fail
  go_ret2
  exact ⟨rfl, rfl⟩
theorem p_one_id (W : World) : Calls Tryd.prog 115 #[.string ⟨#[105, 100]⟩] W fun e w' => e = .returned (.tuple #[.int .i64 18, .int .i64 1]) ∧ w' = W := by
  go_enter Tryd.func115, Tryd.ntmps115
  go_wp2_with fail
  go_ret2
  exact ⟨rfl, rfl⟩
theorem p_one_if (W : World) : Calls Tryd.prog 115 #[.string ⟨#[105, 102]⟩] W fun e w' => e = .returned (.tuple #[.int .i64 30, .int .i64 3]) ∧ w' = W := by
  go_enter Tryd.func115, Tryd.ntmps115
  go_wp2_with fail
  go_ret2
  exact ⟨rfl, rfl⟩
theorem p_one_in (W : World) : Calls Tryd.prog 115 #[.string ⟨#[105, 110]⟩] W fun e w' => e = .returned (.tuple #[.int .i64 0, .int .i64 0]) ∧ w' = W := by
  go_enter Tryd.func115, Tryd.ntmps115
  go_wp2_with fail
  go_ret2
  exact ⟨rfl, rfl⟩
theorem p_one_int (W : World) : Calls Tryd.prog 115 #[.string ⟨#[105, 110, 116]⟩] W fun e w' => e = .returned (.tuple #[.int .i64 19, .int .i64 1]) ∧ w' = W := by
  go_enter Tryd.func115, Tryd.ntmps115
  go_wp2_with fail
  go_ret2
  exact ⟨rfl, rfl⟩
theorem p_one_none (W : World) : Calls Tryd.prog 115 #[.string ⟨#[110, 111, 110, 101]⟩] W fun e w' => e = .returned (.tuple #[.int .i64 6, .int .i64 0]) ∧ w' = W := by
  go_enter Tryd.func115, Tryd.ntmps115
  go_wp2_with fail
  go_ret2
  exact ⟨rfl, rfl⟩
theorem p_one_not (W : World) : Calls Tryd.prog 115 #[.string ⟨#[110, 111, 116]⟩] W fun e w' => e = .returned (.tuple #[.int .i64 0, .int .i64 0]) ∧ w' = W := by
  go_enter Tryd.func115, Tryd.ntmps115
  go_wp2_with fail
  go_ret2
  exact ⟨rfl, rfl⟩
theorem p_one_only (W : World) : Calls Tryd.prog 115 #[.string ⟨#[111, 110, 108, 121]⟩] W fun e w' => e = .returned (.tuple #[.int .i64 33, .int .i64 2]) ∧ w' = W := by
  go_enter Tryd.func115, Tryd.ntmps115
  go_wp2_with fail
  go_ret2
  exact ⟨rfl, rfl⟩
theorem p_one_or (W : World) : Calls Tryd.prog 115 #[.string ⟨#[111, 114]⟩] W fun e w' => e = .returned (.tuple #[.int .i64 0, .int .i64 0]) ∧ w' = W := by
  go_enter Tryd.func115, Tryd.ntmps115
  go_wp2_with fail
  go_ret2
  exact ⟨rfl, rfl⟩
theorem p_one_self (W : World) : Calls Tryd.prog 115 #[.string ⟨#[115, 101, 108, 102]⟩] W fun e w' => e = .returned (.tuple #[.int .i64 5, .int .i64 0]) ∧ w' = W := by
  go_enter Tryd.func115, Tryd.ntmps115
  go_wp2_with fail
  go_ret2
  exact ⟨rfl, rfl⟩
theorem p_one_size (W : World) : Calls Tryd.prog 115 #[.string ⟨#[115, 105, 122, 101]⟩] W fun e w' => e = .returned (.tuple #[.int .i64 14, .int .i64 1]) ∧ w' = W := by
  go_enter Tryd.func115, Tryd.ntmps115
  go_wp2_with fail
  go_ret2
  exact ⟨rfl, rfl⟩
theorem p_one_sum (W : World) : Calls Tryd.prog 115 #[.string ⟨#[115, 117, 109]⟩] W fun e w' => e = .returned (.tuple #[.int .i64 34, .int .i64 2]) ∧ w' = W := by
  go_enter Tryd.func115, Tryd.ntmps115
  go_wp2_with fail
  go_ret2
  exact ⟨rfl, rfl⟩
theorem p_one_text (W : World) : Calls Tryd.prog 115 #[.string ⟨#[116, 101, 120, 116]⟩] W fun e w' => e = .returned (.tuple #[.int .i64 16, .int .i64 1]) ∧ w' = W := by
  go_enter Tryd.func115, Tryd.ntmps115
  go_wp2_with fail
  go_ret2
  exact ⟨rfl, rfl⟩
theorem p_one_then (W : World) : Calls Tryd.prog 115 #[.string ⟨#[116, 104, 101, 110]⟩] W fun e w' => e = .returned (.tuple #[.int .i64 0, .int .i64 0]) ∧ w' = W := by
  go_enter Tryd.func115, Tryd.ntmps115
  go_wp2_with fail
  go_ret2
  exact ⟨rfl, rfl⟩
theorem p_one_true (W : World) : Calls Tryd.prog 115 #[.string ⟨#[116, 114, 117, 101]⟩] W fun e w' => e = .returned (.tuple #[.int .i64 3, .int .i64 0]) ∧ w' = W := by
  go_enter Tryd.func115, Tryd.ntmps115
  go_wp2_with fail
  go_ret2
  exact ⟨rfl, rfl⟩
theorem p_one {s : List Nat} (hs : s ∈ wordsL) (W : World) : Calls Tryd.prog 115 #[.string (txt s)] W fun e w' => e = .returned (.tuple #[.int .i64 ((oneN s).1 : Int), .int .i64 ((oneN s).2 : Int)]) ∧ w' = W := by
  simp only [wordsL, List.mem_cons, List.not_mem_nil, or_false] at hs
  rcases hs with rfl | rfl | rfl | rfl | rfl | rfl | rfl | rfl | rfl | rfl | rfl | rfl | rfl | rfl | rfl | rfl | rfl | rfl | rfl | rfl | rfl | rfl
  · exact p_one_and W
  · exact p_one_any W
  · exact p_one_concept W
  · exact p_one_else W
  · exact p_one_end W
  · exact p_one_every W
  · exact p_one_false W
  · exact p_one_first W
  · exact p_one_id W
  · exact p_one_if W
  · exact p_one_in W
  · exact p_one_int W
  · exact p_one_none W
  · exact p_one_not W
  · exact p_one_only W
  · exact p_one_or W
  · exact p_one_self W
  · exact p_one_size W
  · exact p_one_sum W
  · exact p_one_text W
  · exact p_one_then W
  · exact p_one_true W
end Go.Proofs.YtpkggobhhieeoaaDoor
