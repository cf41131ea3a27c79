/- - -/
import Derived.Test.YtpkggobhhieeoaaDoorKM14
import Derived.Test.YtpkggobhhieeoaaDoorKLRParse
set_option maxRecDepth 100000
set_option maxHeartbeats 32000000
set_option linter.unusedSimpArgs false
set_option linter.unusedVariables false
namespace Go.Proofs.YtpkggobhhieeoaaDoor
open Go.RowKit
theorem Blk.f3r {w : World} {g : Nat} {t : TypeId} {a b c : Value} (h : Blk w g t #[a, b, c]) : w.cell? ⟨g, 0, none⟩ = some a ∧ w.frozen? ⟨g, 0, none⟩ = false ∧ w.cell? ⟨g, 1, none⟩ = some b ∧ w.frozen? ⟨g, 1, none⟩ = false ∧ w.cell? ⟨g, 2, none⟩ = some c ∧ w.frozen? ⟨g, 2, none⟩ = false ∧ g < w.heap.size :=
  ⟨h.cell rfl, h.frozen 0, h.cell rfl, h.frozen 1, h.cell rfl, h.frozen 2, h.lt⟩
def RInsIs (w : World) : (Pc × Nat) ⊕ Nat → Ending → World → Prop
  | .inl (p, k), e, w' => e = .returned (.tuple #[.agg #[.int .i64 p.kind, .string (txt p.text), .string (txt p.mark)], .int .i64 (k : Int), .bool true]) ∧ Below w.heap.size w w'
  | .inr k, e, w' => ∃ (a : Int) (b c : ByteArray), e = .returned (.tuple #[.agg #[.int .i64 a, .string b, .string c], .int .i64 (k : Int), .bool false]) ∧ Below w.heap.size w w'
theorem rname_ok {s : ByteArray} (hs : s.size ≤ 4096) {b k : Nat} {t : List Nat} (hb : b ≤ s.size) (h : nameS (bs s) b = .inl (t, k)) (bi : Int) (hbi : bi = (b : Int)) (w : World) :
    Calls Tryd.prog 31 #[.string s, .int .i64 bi] w fun e w' => e = .returned (.tuple #[.string (txt t), .int .i64 (k : Int)]) ∧ Below w.heap.size w w' := by
  obtain ⟨h1, h2, _, _⟩ := name_some (by rw [bs_len]; exact hb) h
  subst h1 h2
  exact (rname_any s hs b bi hbi hb w).mono fun e w' hh => ⟨hh.1, hh.2.below _⟩
theorem rname_no {s : ByteArray} (hs : s.size ≤ 4096) {b k : Nat} (hb : b ≤ s.size) (h : nameS (bs s) b = .inr k) (bi : Int) (hbi : bi = (b : Int)) (w : World) :
    Calls Tryd.prog 31 #[.string s, .int .i64 bi] w fun e w' => e = .returned (.tuple #[.string ⟨#[]⟩, .int .i64 (k : Int)]) ∧ Below w.heap.size w w' := by
  obtain ⟨h1, h2⟩ := name_none h
  subst h1
  have h3 : cutN (bs s) k (nameE (bs s) k) = [] := List.eq_nil_of_length_eq_zero (by rw [cut_len (nameE_in (by rw [bs_len]; exact hb)).2, h2]; omega)
  refine (rname_any s hs k bi hbi hb w).mono fun e w' hh => ⟨?_, hh.2.below _⟩
  rw [hh.1, h3, h2]
  rfl
theorem rins_prop {s : ByteArray} (hs : s.size ≤ 4096) {i : Nat} (hi : i ≤ s.size) (ii : Int) (hii : ii = (i : Int)) (w : World) {t : List Nat} {j : Nat} (hc : (bs s)[i]? = some 46) (hn : nameS (bs s) (i + 1) = .inl (t, j)) : Calls Tryd.prog 20 #[.string s, .int .i64 ii] w fun e w' => e = .returned (.tuple #[.agg #[.int .i64 2, .string (txt t), .string ⟨#[]⟩], .int .i64 (j : Int), .bool true]) ∧ Below w.heap.size w w' := by
  obtain ⟨n, hn⟩ : ∃ n, s.size = n := ⟨_, rfl⟩
  have Hn := zH hn
  have hn' : (s.size : Int) = (n : Int) := by rw [hn]
  have hle : i ≤ n := by omega
  have hfew : n ≤ 4096 := by omega
  have i0 : (0 : Int) ≤ (i : Int) := Int.natCast_nonneg _
  have i5 : (i : Int) ≤ 4096 := by omega
  subst hii
  clear hn hi
  have hj := name_some (by have := (List.getElem?_eq_some_iff.1 hc).1; exact this) hn
  rw [bs_len] at hj
  have hj1 := hj.2.2.1
  have hj2 := hj.2.2.2
  have ht : t ≠ [] := by
    intro h
    have h2 := congrArg List.length hj.1
    rw [h, cut_len (by rw [bs_len]; exact hj2)] at h2
    simp at h2
    omega
  have j0 : (0 : Int) ≤ (j : Int) := Int.natCast_nonneg _
  have j5 : (j : Int) ≤ 4096 := by omega
  have e1 : ((txt t).toList == []) = false := by
    have := mt txt_empty_iff.1 ht
    simpa using this
  have e1' : ((txt t).toList != []) = true := by
    have := mt txt_empty_iff.1 ht
    simpa using this
  clear hj
  go_enter Tryd.func20, Tryd.ntmps20
  go_upto_region 1 with fail
  have B00 := zH (Below.refl w.heap.size w)
  generalize hws : World.alloc _ _ = w1
  have B1 : Hid (Below w.heap.size w w1) := zH (by rw [← hws]; exact B00.out.alloc zL _)
  have Kr1 : Hid (Blk w1 w.heap.size 30 #[.int .i64 0, .string ⟨#[]⟩, .string ⟨#[]⟩]) := zH (by rw [← hws]; exact Blk.new _ _ _)
  have S1 : w.heap.size ≤ w1.heap.size := by rw [← hws]; simp
  clear hws
  obtain ⟨r0, rz0, r1, rz1, r2, rz2, lr⟩ := Kr1.out.f3r
  have N2 : Hid (Calls Tryd.prog 19 #[.string s, .int .i64 (i : Int), .int .u8 46] w1 fun e w' => e = .returned (.bool true) ∧ w' = w1) := zH (is_any s hs (i) 46 _ _ (by go_num) rfl true (by rw [hc]; rfl) w1)
  go_upto_region 2 with (go_at_call 19; (with_reducible refine N2.out.mono ?_); rintro e w' ⟨rfl, h0⟩; have h0 := h0.symm; subst h0)
  have N3 : Hid (Calls Tryd.prog 31 #[.string s, .int .i64 ((i : Int) + 1)] w1 fun e w' => e = .returned (.tuple #[.string (txt t), .int .i64 (j : Int)]) ∧ Below w1.heap.size w1 w') := zH (rname_ok hs (b := i + 1) (by have := (List.getElem?_eq_some_iff.1 hc).1; rw [bs_len] at this; exact this) hn _ (by go_num) _)
  go_upto_region 3 with (go_at_call 31; (with_reducible refine N3.out.mono ?_); rintro e v3 ⟨rfl, h1⟩; have B3 : Hid (Below w.heap.size w v3) := zH (B1.out.trans (h1.mono B1.out.size)); have S3 := h1.size; have Kr3 := zH (Kr1.out.below h1 Kr1.out.lt); clear r0 rz0 r1 rz1 r2 rz2 lr h1; obtain ⟨r0, rz0, r1, rz1, r2, rz2, lr⟩ := Kr3.out.f3r)
  go_wp2_with fail
  generalize hws : World.setCell (World.setCell (World.setCell _ _ _) _ _) _ _ = wz
  have KZ : Blk wz w.heap.size 30 #[.int .i64 2, .string (txt t), .string ⟨#[]⟩] := by rw [← hws]; have := ((Kr3.out.set_ 0 (.int .i64 2)).set_ 1 (.string (txt t))).set_ 2 (.string ⟨#[]⟩); simpa using this
  have BZ : Below w.heap.size w wz := by rw [← hws]; exact ((B3.out.setCell (p := ⟨w.heap.size, 0, none⟩) zL _).setCell (p := ⟨w.heap.size, 1, none⟩) zL _).setCell (p := ⟨w.heap.size, 2, none⟩) zL _
  have z0 := KZ.cell (i := 0) rfl
  have z1 := KZ.cell (i := 1) rfl
  have z2 := KZ.cell (i := 2) rfl
  clear hws r0 rz0 r1 rz1 r2 rz2 lr
  refine bodyPost_ret (v := .tuple #[.agg #[.int .i64 2, .string (txt t), .string ⟨#[]⟩], .int .i64 (j : Int), .bool true]) (by simp [results, Tryd.results20, go_sem, z0, z1, z2]) rfl ?_
  exact ⟨rfl, BZ⟩
theorem rins_prop_no {s : ByteArray} (hs : s.size ≤ 4096) {i : Nat} (hi : i ≤ s.size) (ii : Int) (hii : ii = (i : Int)) (w : World) {j : Nat} (hc : (bs s)[i]? = some 46) (hn : nameS (bs s) (i + 1) = .inr j) : Calls Tryd.prog 20 #[.string s, .int .i64 ii] w fun e w' => ∃ (a : Int) (b c : ByteArray), e = .returned (.tuple #[.agg #[.int .i64 a, .string b, .string c], .int .i64 (j : Int), .bool false]) ∧ Below w.heap.size w w' := by
  obtain ⟨n, hn⟩ : ∃ n, s.size = n := ⟨_, rfl⟩
  have Hn := zH hn
  have hn' : (s.size : Int) = (n : Int) := by rw [hn]
  have hle : i ≤ n := by omega
  have hfew : n ≤ 4096 := by omega
  have i0 : (0 : Int) ≤ (i : Int) := Int.natCast_nonneg _
  have i5 : (i : Int) ≤ 4096 := by omega
  subst hii
  clear hn hi
  go_enter Tryd.func20, Tryd.ntmps20
  go_upto_region 1 with fail
  have B00 := zH (Below.refl w.heap.size w)
  generalize hws : World.alloc _ _ = w1
  have B1 : Hid (Below w.heap.size w w1) := zH (by rw [← hws]; exact B00.out.alloc zL _)
  have Kr1 : Hid (Blk w1 w.heap.size 30 #[.int .i64 0, .string ⟨#[]⟩, .string ⟨#[]⟩]) := zH (by rw [← hws]; exact Blk.new _ _ _)
  have S1 : w.heap.size ≤ w1.heap.size := by rw [← hws]; simp
  clear hws
  obtain ⟨r0, rz0, r1, rz1, r2, rz2, lr⟩ := Kr1.out.f3r
  have N2 : Hid (Calls Tryd.prog 19 #[.string s, .int .i64 (i : Int), .int .u8 46] w1 fun e w' => e = .returned (.bool true) ∧ w' = w1) := zH (is_any s hs (i) 46 _ _ (by go_num) rfl true (by rw [hc]; rfl) w1)
  go_upto_region 2 with (go_at_call 19; (with_reducible refine N2.out.mono ?_); rintro e w' ⟨rfl, h0⟩; have h0 := h0.symm; subst h0)
  have N3 : Hid (Calls Tryd.prog 31 #[.string s, .int .i64 ((i : Int) + 1)] w1 fun e w' => e = .returned (.tuple #[.string ⟨#[]⟩, .int .i64 (j : Int)]) ∧ Below w1.heap.size w1 w') := zH (rname_no hs (b := i + 1) (by have := (List.getElem?_eq_some_iff.1 hc).1; rw [bs_len] at this; exact this) hn _ (by go_num) _)
  go_upto_region 3 with (go_at_call 31; (with_reducible refine N3.out.mono ?_); rintro e v3 ⟨rfl, h1⟩; have B3 : Hid (Below w.heap.size w v3) := zH (B1.out.trans (h1.mono B1.out.size)); have S3 := h1.size; have Kr3 := zH (Kr1.out.below h1 Kr1.out.lt); clear r0 rz0 r1 rz1 r2 rz2 lr h1; obtain ⟨r0, rz0, r1, rz1, r2, rz2, lr⟩ := Kr3.out.f3r)
  go_wp2_with fail
  generalize hws : World.setCell (World.setCell (World.setCell _ _ _) _ _) _ _ = wz
  have KZ : Blk wz w.heap.size 30 #[.int .i64 2, .string ⟨#[]⟩, .string ⟨#[]⟩] := by rw [← hws]; have := ((Kr3.out.set_ 0 (.int .i64 2)).set_ 1 (.string ⟨#[]⟩)).set_ 2 (.string ⟨#[]⟩); simpa using this
  have BZ : Below w.heap.size w wz := by rw [← hws]; exact ((B3.out.setCell (p := ⟨w.heap.size, 0, none⟩) zL _).setCell (p := ⟨w.heap.size, 1, none⟩) zL _).setCell (p := ⟨w.heap.size, 2, none⟩) zL _
  have z0 := KZ.cell (i := 0) rfl
  have z1 := KZ.cell (i := 1) rfl
  have z2 := KZ.cell (i := 2) rfl
  clear hws r0 rz0 r1 rz1 r2 rz2 lr
  refine bodyPost_ret (v := .tuple #[.agg #[.int .i64 2, .string ⟨#[]⟩, .string ⟨#[]⟩], .int .i64 (j : Int), .bool false]) (by simp [results, Tryd.results20, go_sem, z0, z1, z2]) rfl ?_
  exact ⟨_, _, _, rfl, BZ⟩
theorem runq {s : ByteArray} (hs : s.size ≤ 4096) {k j e : Nat} {t : List Nat} (hk : k ≤ s.size) (hu : unquoteN (bs s) (k : Int) = (t, (j : Int), e)) (ki : Int) (hki : ki = (k : Int)) (W : World) :
    Calls Tryd.prog 32 #[.string s, .int .i64 ki] W fun x w' => x = .returned (.tuple #[.string (txt t), .int .i64 (j : Int), .int .i64 (e : Int)]) ∧ Below W.heap.size W w' := by
  subst hki
  have := ref_unquote s (k : Int) (wf47 (by omega) (by omega)) (by omega) W
  rw [hu] at this
  exact this
theorem rins_kids_no {s : ByteArray} (hs : s.size ≤ 4096) {i : Nat} (hi : i ≤ s.size) (ii : Int) (hii : ii = (i : Int)) (w : World) {j : Nat} (hc : (bs s)[i]? = some 35) (hn : nameS (bs s) (i + 1) = .inr j) : Calls Tryd.prog 20 #[.string s, .int .i64 ii] w fun e w' => ∃ (a : Int) (b c : ByteArray), e = .returned (.tuple #[.agg #[.int .i64 a, .string b, .string c], .int .i64 (j : Int), .bool false]) ∧ Below w.heap.size w w' := by
  obtain ⟨n, hn⟩ : ∃ n, s.size = n := ⟨_, rfl⟩
  have Hn := zH hn
  have hn' : (s.size : Int) = (n : Int) := by rw [hn]
  have hle : i ≤ n := by omega
  have hfew : n ≤ 4096 := by omega
  have i0 : (0 : Int) ≤ (i : Int) := Int.natCast_nonneg _
  have i5 : (i : Int) ≤ 4096 := by omega
  subst hii
  clear hn hi
  go_enter Tryd.func20, Tryd.ntmps20
  go_upto_region 1 with fail
  have B00 := zH (Below.refl w.heap.size w)
  generalize hws : World.alloc _ _ = w1
  have B1 : Hid (Below w.heap.size w w1) := zH (by rw [← hws]; exact B00.out.alloc zL _)
  have Kr1 : Hid (Blk w1 w.heap.size 30 #[.int .i64 0, .string ⟨#[]⟩, .string ⟨#[]⟩]) := zH (by rw [← hws]; exact Blk.new _ _ _)
  have S1 : w.heap.size ≤ w1.heap.size := by rw [← hws]; simp
  clear hws
  obtain ⟨r0, rz0, r1, rz1, r2, rz2, lr⟩ := Kr1.out.f3r
  have N2 : Hid (Calls Tryd.prog 19 #[.string s, .int .i64 (i : Int), .int .u8 46] w1 fun e w' => e = .returned (.bool false) ∧ w' = w1) := zH (is_any s hs (i) 46 _ _ (by go_num) rfl false (by rw [hc]; rfl) w1)
  go_upto_region 4 with (go_at_call 19; (with_reducible refine N2.out.mono ?_); rintro e w' ⟨rfl, h0⟩; have h0 := h0.symm; subst h0)
  have N3 : Hid (Calls Tryd.prog 19 #[.string s, .int .i64 (i : Int), .int .u8 35] w1 fun e w' => e = .returned (.bool true) ∧ w' = w1) := zH (is_any s hs (i) 35 _ _ (by go_num) rfl true (by rw [hc]; rfl) w1)
  go_upto_region 5 with (go_at_call 19; (with_reducible refine N3.out.mono ?_); rintro e w' ⟨rfl, h0⟩; have h0 := h0.symm; subst h0)
  have N4 : Hid (Calls Tryd.prog 31 #[.string s, .int .i64 ((i : Int) + 1)] w1 fun e w' => e = .returned (.tuple #[.string ⟨#[]⟩, .int .i64 (j : Int)]) ∧ Below w1.heap.size w1 w') := zH (rname_no hs (b := i + 1) (by have := (List.getElem?_eq_some_iff.1 hc).1; rw [bs_len] at this; exact this) hn _ (by go_num) _)
  go_upto_region 6 with (go_at_call 31; (with_reducible refine N4.out.mono ?_); rintro e v4 ⟨rfl, h1⟩; have B4 : Hid (Below w.heap.size w v4) := zH (B1.out.trans (h1.mono B1.out.size)); have S4 := h1.size; have Kr4 := zH (Kr1.out.below h1 Kr1.out.lt); clear r0 rz0 r1 rz1 r2 rz2 lr h1; obtain ⟨r0, rz0, r1, rz1, r2, rz2, lr⟩ := Kr4.out.f3r)
  go_upto_region 7 with fail
  have hLp : w.heap.size < v4.heap.size := Kr4.out.lt
  generalize hws : World.alloc _ _ = w5
  have B5 : Hid (Below w.heap.size w w5) := zH (by rw [← hws]; exact B4.out.alloc B4.out.size _)
  have Kr5 : Hid (Blk w5 w.heap.size 30 #[.int .i64 0, .string ⟨#[]⟩, .string ⟨#[]⟩]) := zH (by rw [← hws]; exact Kr4.out.alloc _)
  have Kp5 : Hid (Blk w5 v4.heap.size 30 #[.int .i64 3, .string ⟨#[]⟩, .string ⟨#[]⟩]) := zH (by rw [← hws]; exact Blk.new _ _ _)
  have S5 : v4.heap.size ≤ w5.heap.size := by rw [← hws]; simp
  clear r0 rz0 r1 rz1 r2 rz2 lr
  clear hws
  obtain ⟨r0, rz0, r1, rz1, r2, rz2, lr⟩ := Kr5.out.f3r
  obtain ⟨p0, pz0, p1, pz1, p2, pz2, lp⟩ := Kp5.out.f3r
  go_wp2_with fail
  generalize hws : World.setCell (World.setCell (World.setCell _ _ _) _ _) _ _ = wz
  have KZ : Blk wz w.heap.size 30 #[.int .i64 3, .string ⟨#[]⟩, .string ⟨#[]⟩] := by rw [← hws]; have := ((Kr5.out.set_ 0 (.int .i64 3)).set_ 1 (.string ⟨#[]⟩)).set_ 2 (.string ⟨#[]⟩); simpa using this
  have BZ : Below w.heap.size w wz := by rw [← hws]; exact ((B5.out.setCell (p := ⟨w.heap.size, 0, none⟩) zL _).setCell (p := ⟨w.heap.size, 1, none⟩) zL _).setCell (p := ⟨w.heap.size, 2, none⟩) zL _
  have z0 := KZ.cell (i := 0) rfl
  have z1 := KZ.cell (i := 1) rfl
  have z2 := KZ.cell (i := 2) rfl
  clear hws r0 rz0 r1 rz1 r2 rz2 lr p0 pz0 p1 pz1 p2 pz2 lp
  refine bodyPost_ret (v := .tuple #[.agg #[.int .i64 3, .string ⟨#[]⟩, .string ⟨#[]⟩], .int .i64 (j : Int), .bool false]) (by simp [results, Tryd.results20, go_sem, z0, z1, z2]) rfl ?_
  exact ⟨_, _, _, rfl, BZ⟩
theorem rins_kids {s : ByteArray} (hs : s.size ≤ 4096) {i : Nat} (hi : i ≤ s.size) (ii : Int) (hii : ii = (i : Int)) (w : World) {t : List Nat} {j : Nat} (hc : (bs s)[i]? = some 35) (hn : nameS (bs s) (i + 1) = .inl (t, j)) (hd : (bs s)[j]? ≠ some 32) : Calls Tryd.prog 20 #[.string s, .int .i64 ii] w fun e w' => e = .returned (.tuple #[.agg #[.int .i64 3, .string (txt t), .string ⟨#[]⟩], .int .i64 (j : Int), .bool true]) ∧ Below w.heap.size w w' := by
  obtain ⟨n, hn⟩ : ∃ n, s.size = n := ⟨_, rfl⟩
  have Hn := zH hn
  have hn' : (s.size : Int) = (n : Int) := by rw [hn]
  have hle : i ≤ n := by omega
  have hfew : n ≤ 4096 := by omega
  have i0 : (0 : Int) ≤ (i : Int) := Int.natCast_nonneg _
  have i5 : (i : Int) ≤ 4096 := by omega
  subst hii
  clear hn hi
  have hj := name_some (by have := (List.getElem?_eq_some_iff.1 hc).1; exact this) hn
  rw [bs_len] at hj
  have hj1 := hj.2.2.1
  have hj2 := hj.2.2.2
  have ht : t ≠ [] := by
    intro h
    have h2 := congrArg List.length hj.1
    rw [h, cut_len (by rw [bs_len]; exact hj2)] at h2
    simp at h2
    omega
  have j0 : (0 : Int) ≤ (j : Int) := Int.natCast_nonneg _
  have j5 : (j : Int) ≤ 4096 := by omega
  have e1 : ((txt t).toList == []) = false := by
    have := mt txt_empty_iff.1 ht
    simpa using this
  have e1' : ((txt t).toList != []) = true := by
    have := mt txt_empty_iff.1 ht
    simpa using this
  clear hj
  go_enter Tryd.func20, Tryd.ntmps20
  go_upto_region 1 with fail
  have B00 := zH (Below.refl w.heap.size w)
  generalize hws : World.alloc _ _ = w1
  have B1 : Hid (Below w.heap.size w w1) := zH (by rw [← hws]; exact B00.out.alloc zL _)
  have Kr1 : Hid (Blk w1 w.heap.size 30 #[.int .i64 0, .string ⟨#[]⟩, .string ⟨#[]⟩]) := zH (by rw [← hws]; exact Blk.new _ _ _)
  have S1 : w.heap.size ≤ w1.heap.size := by rw [← hws]; simp
  clear hws
  obtain ⟨r0, rz0, r1, rz1, r2, rz2, lr⟩ := Kr1.out.f3r
  have N2 : Hid (Calls Tryd.prog 19 #[.string s, .int .i64 (i : Int), .int .u8 46] w1 fun e w' => e = .returned (.bool false) ∧ w' = w1) := zH (is_any s hs (i) 46 _ _ (by go_num) rfl false (by rw [hc]; rfl) w1)
  go_upto_region 4 with (go_at_call 19; (with_reducible refine N2.out.mono ?_); rintro e w' ⟨rfl, h0⟩; have h0 := h0.symm; subst h0)
  have N3 : Hid (Calls Tryd.prog 19 #[.string s, .int .i64 (i : Int), .int .u8 35] w1 fun e w' => e = .returned (.bool true) ∧ w' = w1) := zH (is_any s hs (i) 35 _ _ (by go_num) rfl true (by rw [hc]; rfl) w1)
  go_upto_region 5 with (go_at_call 19; (with_reducible refine N3.out.mono ?_); rintro e w' ⟨rfl, h0⟩; have h0 := h0.symm; subst h0)
  have N4 : Hid (Calls Tryd.prog 31 #[.string s, .int .i64 ((i : Int) + 1)] w1 fun e w' => e = .returned (.tuple #[.string (txt t), .int .i64 (j : Int)]) ∧ Below w1.heap.size w1 w') := zH (rname_ok hs (b := i + 1) (by have := (List.getElem?_eq_some_iff.1 hc).1; rw [bs_len] at this; exact this) hn _ (by go_num) _)
  go_upto_region 6 with (go_at_call 31; (with_reducible refine N4.out.mono ?_); rintro e v4 ⟨rfl, h1⟩; have B4 : Hid (Below w.heap.size w v4) := zH (B1.out.trans (h1.mono B1.out.size)); have S4 := h1.size; have Kr4 := zH (Kr1.out.below h1 Kr1.out.lt); clear r0 rz0 r1 rz1 r2 rz2 lr h1; obtain ⟨r0, rz0, r1, rz1, r2, rz2, lr⟩ := Kr4.out.f3r)
  go_upto_region 7 with fail
  have hLp : w.heap.size < v4.heap.size := Kr4.out.lt
  generalize hws : World.alloc _ _ = w5
  have B5 : Hid (Below w.heap.size w w5) := zH (by rw [← hws]; exact B4.out.alloc B4.out.size _)
  have Kr5 : Hid (Blk w5 w.heap.size 30 #[.int .i64 0, .string ⟨#[]⟩, .string ⟨#[]⟩]) := zH (by rw [← hws]; exact Kr4.out.alloc _)
  have Kp5 : Hid (Blk w5 v4.heap.size 30 #[.int .i64 3, .string (txt t), .string ⟨#[]⟩]) := zH (by rw [← hws]; exact Blk.new _ _ _)
  have S5 : v4.heap.size ≤ w5.heap.size := by rw [← hws]; simp
  clear r0 rz0 r1 rz1 r2 rz2 lr
  clear hws
  obtain ⟨r0, rz0, r1, rz1, r2, rz2, lr⟩ := Kr5.out.f3r
  obtain ⟨p0, pz0, p1, pz1, p2, pz2, lp⟩ := Kp5.out.f3r
  have N6 : Hid (Calls Tryd.prog 19 #[.string s, .int .i64 (j : Int), .int .u8 32] w5 fun e w' => e = .returned (.bool false) ∧ w' = w5) := zH (is_any s hs (j) 32 _ _ (by go_num) rfl false (by simpa using hd) w5)
  go_upto_region 8 with (go_at_call 19; (with_reducible refine N6.out.mono ?_); rintro e w' ⟨rfl, h0⟩; have h0 := h0.symm; subst h0)
  go_wp2_with fail
  generalize hws : World.setCell (World.setCell (World.setCell _ _ _) _ _) _ _ = wz
  have KZ : Blk wz w.heap.size 30 #[.int .i64 3, .string (txt t), .string ⟨#[]⟩] := by rw [← hws]; have := ((Kr5.out.set_ 0 (.int .i64 3)).set_ 1 (.string (txt t))).set_ 2 (.string ⟨#[]⟩); simpa using this
  have BZ : Below w.heap.size w wz := by rw [← hws]; exact ((B5.out.setCell (p := ⟨w.heap.size, 0, none⟩) zL _).setCell (p := ⟨w.heap.size, 1, none⟩) zL _).setCell (p := ⟨w.heap.size, 2, none⟩) zL _
  have z0 := KZ.cell (i := 0) rfl
  have z1 := KZ.cell (i := 1) rfl
  have z2 := KZ.cell (i := 2) rfl
  clear hws r0 rz0 r1 rz1 r2 rz2 lr p0 pz0 p1 pz1 p2 pz2 lp
  refine bodyPost_ret (v := .tuple #[.agg #[.int .i64 3, .string (txt t), .string ⟨#[]⟩], .int .i64 (j : Int), .bool true]) (by simp [results, Tryd.results20, go_sem, z0, z1, z2]) rfl ?_
  exact ⟨rfl, BZ⟩
theorem rins_mark_no {s : ByteArray} (hs : s.size ≤ 4096) {i : Nat} (hi : i ≤ s.size) (ii : Int) (hii : ii = (i : Int)) (w : World) {t : List Nat} {j : Nat} (hc : (bs s)[i]? = some 35) (hn : nameS (bs s) (i + 1) = .inl (t, j)) (hd : (bs s)[j]? = some 32) {m : List Nat} {k er : Nat} (hu : unquoteN (bs s) ((j + 1 : Nat) : Int) = (m, (k : Int), er)) (he : er ≠ 0) : Calls Tryd.prog 20 #[.string s, .int .i64 ii] w fun e w' => ∃ (a : Int) (b c : ByteArray), e = .returned (.tuple #[.agg #[.int .i64 a, .string b, .string c], .int .i64 (k : Int), .bool false]) ∧ Below w.heap.size w w' := by
  obtain ⟨n, hn⟩ : ∃ n, s.size = n := ⟨_, rfl⟩
  have Hn := zH hn
  have hn' : (s.size : Int) = (n : Int) := by rw [hn]
  have hle : i ≤ n := by omega
  have hfew : n ≤ 4096 := by omega
  have i0 : (0 : Int) ≤ (i : Int) := Int.natCast_nonneg _
  have i5 : (i : Int) ≤ 4096 := by omega
  subst hii
  clear hn hi
  have hj := name_some (by have := (List.getElem?_eq_some_iff.1 hc).1; exact this) hn
  rw [bs_len] at hj
  have hj1 := hj.2.2.1
  have hj2 := hj.2.2.2
  have ht : t ≠ [] := by
    intro h
    have h2 := congrArg List.length hj.1
    rw [h, cut_len (by rw [bs_len]; exact hj2)] at h2
    simp at h2
    omega
  have j0 : (0 : Int) ≤ (j : Int) := Int.natCast_nonneg _
  have j5 : (j : Int) ≤ 4096 := by omega
  have e1 : ((txt t).toList == []) = false := by
    have := mt txt_empty_iff.1 ht
    simpa using this
  have e1' : ((txt t).toList != []) = true := by
    have := mt txt_empty_iff.1 ht
    simpa using this
  clear hj
  have e5 : ((er : Int) == 0) = false := by simp; omega
  go_enter Tryd.func20, Tryd.ntmps20
  go_upto_region 1 with fail
  have B00 := zH (Below.refl w.heap.size w)
  generalize hws : World.alloc _ _ = w1
  have B1 : Hid (Below w.heap.size w w1) := zH (by rw [← hws]; exact B00.out.alloc zL _)
  have Kr1 : Hid (Blk w1 w.heap.size 30 #[.int .i64 0, .string ⟨#[]⟩, .string ⟨#[]⟩]) := zH (by rw [← hws]; exact Blk.new _ _ _)
  have S1 : w.heap.size ≤ w1.heap.size := by rw [← hws]; simp
  clear hws
  obtain ⟨r0, rz0, r1, rz1, r2, rz2, lr⟩ := Kr1.out.f3r
  have N2 : Hid (Calls Tryd.prog 19 #[.string s, .int .i64 (i : Int), .int .u8 46] w1 fun e w' => e = .returned (.bool false) ∧ w' = w1) := zH (is_any s hs (i) 46 _ _ (by go_num) rfl false (by rw [hc]; rfl) w1)
  go_upto_region 4 with (go_at_call 19; (with_reducible refine N2.out.mono ?_); rintro e w' ⟨rfl, h0⟩; have h0 := h0.symm; subst h0)
  have N3 : Hid (Calls Tryd.prog 19 #[.string s, .int .i64 (i : Int), .int .u8 35] w1 fun e w' => e = .returned (.bool true) ∧ w' = w1) := zH (is_any s hs (i) 35 _ _ (by go_num) rfl true (by rw [hc]; rfl) w1)
  go_upto_region 5 with (go_at_call 19; (with_reducible refine N3.out.mono ?_); rintro e w' ⟨rfl, h0⟩; have h0 := h0.symm; subst h0)
  have N4 : Hid (Calls Tryd.prog 31 #[.string s, .int .i64 ((i : Int) + 1)] w1 fun e w' => e = .returned (.tuple #[.string (txt t), .int .i64 (j : Int)]) ∧ Below w1.heap.size w1 w') := zH (rname_ok hs (b := i + 1) (by have := (List.getElem?_eq_some_iff.1 hc).1; rw [bs_len] at this; exact this) hn _ (by go_num) _)
  go_upto_region 6 with (go_at_call 31; (with_reducible refine N4.out.mono ?_); rintro e v4 ⟨rfl, h1⟩; have B4 : Hid (Below w.heap.size w v4) := zH (B1.out.trans (h1.mono B1.out.size)); have S4 := h1.size; have Kr4 := zH (Kr1.out.below h1 Kr1.out.lt); clear r0 rz0 r1 rz1 r2 rz2 lr h1; obtain ⟨r0, rz0, r1, rz1, r2, rz2, lr⟩ := Kr4.out.f3r)
  go_upto_region 7 with fail
  have hLp : w.heap.size < v4.heap.size := Kr4.out.lt
  generalize hws : World.alloc _ _ = w5
  have B5 : Hid (Below w.heap.size w w5) := zH (by rw [← hws]; exact B4.out.alloc B4.out.size _)
  have Kr5 : Hid (Blk w5 w.heap.size 30 #[.int .i64 0, .string ⟨#[]⟩, .string ⟨#[]⟩]) := zH (by rw [← hws]; exact Kr4.out.alloc _)
  have Kp5 : Hid (Blk w5 v4.heap.size 30 #[.int .i64 3, .string (txt t), .string ⟨#[]⟩]) := zH (by rw [← hws]; exact Blk.new _ _ _)
  have S5 : v4.heap.size ≤ w5.heap.size := by rw [← hws]; simp
  clear r0 rz0 r1 rz1 r2 rz2 lr
  clear hws
  obtain ⟨r0, rz0, r1, rz1, r2, rz2, lr⟩ := Kr5.out.f3r
  obtain ⟨p0, pz0, p1, pz1, p2, pz2, lp⟩ := Kp5.out.f3r
  have N6 : Hid (Calls Tryd.prog 19 #[.string s, .int .i64 (j : Int), .int .u8 32] w5 fun e w' => e = .returned (.bool true) ∧ w' = w5) := zH (is_any s hs (j) 32 _ _ (by go_num) rfl true (by rw [hd]; rfl) w5)
  go_upto_region 9 with (go_at_call 19; (with_reducible refine N6.out.mono ?_); rintro e w' ⟨rfl, h0⟩; have h0 := h0.symm; subst h0)
  have N7 : Hid (Calls Tryd.prog 32 #[.string s, .int .i64 ((j : Int) + 1)] w5 fun e w' => e = .returned (.tuple #[.string (txt m), .int .i64 (k : Int), .int .i64 (er : Int)]) ∧ Below w5.heap.size w5 w') := zH (runq hs (k := j + 1) (by have := (List.getElem?_eq_some_iff.1 hd).1; rw [bs_len] at this; exact this) hu _ (by go_num) _)
  go_upto_region 10 with (go_at_call 32; (with_reducible refine N7.out.mono ?_); rintro e v7 ⟨rfl, h1⟩; have B7 : Hid (Below w.heap.size w v7) := zH (B5.out.trans (h1.mono B5.out.size)); have S7 := h1.size; have Kr7 := zH (Kr5.out.below h1 Kr5.out.lt); have Kp7 := zH (Kp5.out.below h1 Kp5.out.lt); clear r0 rz0 r1 rz1 r2 rz2 lr p0 pz0 p1 pz1 p2 pz2 lp h1; obtain ⟨r0, rz0, r1, rz1, r2, rz2, lr⟩ := Kr7.out.f3r; obtain ⟨p0, pz0, p1, pz1, p2, pz2, lp⟩ := Kp7.out.f3r)
  go_upto_region 13 with fail
  generalize hws : World.setCell _ _ _ = w8
  have B8 : Hid (Below w.heap.size w w8) := zH (by rw [← hws]; exact B7.out.setCell (p := ⟨v4.heap.size, 2, none⟩) (by show w.heap.size ≤ v4.heap.size; omega) _)
  have Kr8 : Hid (Blk w8 w.heap.size 30 #[.int .i64 0, .string ⟨#[]⟩, .string ⟨#[]⟩]) := zH (by rw [← hws]; exact Kr7.out.far (p := ⟨v4.heap.size, 2, none⟩) (by show w.heap.size ≠ v4.heap.size; omega) _)
  have Kp8 : Hid (Blk w8 v4.heap.size 30 #[.int .i64 3, .string (txt t), .string (txt m)]) := zH (by rw [← hws]; exact (by have := Kp7.out.set_ 2 (.string (txt m)); simpa using this))
  have S8 : v7.heap.size ≤ w8.heap.size := by rw [← hws]; simp
  clear r0 rz0 r1 rz1 r2 rz2 lr p0 pz0 p1 pz1 p2 pz2 lp
  clear hws
  obtain ⟨r0, rz0, r1, rz1, r2, rz2, lr⟩ := Kr8.out.f3r
  obtain ⟨p0, pz0, p1, pz1, p2, pz2, lp⟩ := Kp8.out.f3r
  go_wp2_with fail
  generalize hws : World.setCell (World.setCell (World.setCell _ _ _) _ _) _ _ = wz
  have KZ : Blk wz w.heap.size 30 #[.int .i64 3, .string (txt t), .string (txt m)] := by rw [← hws]; have := ((Kr8.out.set_ 0 (.int .i64 3)).set_ 1 (.string (txt t))).set_ 2 (.string (txt m)); simpa using this
  have BZ : Below w.heap.size w wz := by rw [← hws]; exact ((B8.out.setCell (p := ⟨w.heap.size, 0, none⟩) zL _).setCell (p := ⟨w.heap.size, 1, none⟩) zL _).setCell (p := ⟨w.heap.size, 2, none⟩) zL _
  have z0 := KZ.cell (i := 0) rfl
  have z1 := KZ.cell (i := 1) rfl
  have z2 := KZ.cell (i := 2) rfl
  clear hws r0 rz0 r1 rz1 r2 rz2 lr p0 pz0 p1 pz1 p2 pz2 lp
  refine bodyPost_ret (v := .tuple #[.agg #[.int .i64 3, .string (txt t), .string (txt m)], .int .i64 (k : Int), .bool false]) (by simp [results, Tryd.results20, go_sem, z0, z1, z2]) rfl ?_
  exact ⟨_, _, _, rfl, BZ⟩
theorem rins_mark_nil {s : ByteArray} (hs : s.size ≤ 4096) {i : Nat} (hi : i ≤ s.size) (ii : Int) (hii : ii = (i : Int)) (w : World) {t : List Nat} {j : Nat} (hc : (bs s)[i]? = some 35) (hn : nameS (bs s) (i + 1) = .inl (t, j)) (hd : (bs s)[j]? = some 32) {k : Nat} (hu : unquoteN (bs s) ((j + 1 : Nat) : Int) = ([], (k : Int), 0)) : Calls Tryd.prog 20 #[.string s, .int .i64 ii] w fun e w' => ∃ (a : Int) (b c : ByteArray), e = .returned (.tuple #[.agg #[.int .i64 a, .string b, .string c], .int .i64 ((j : Int) + 2), .bool false]) ∧ Below w.heap.size w w' := by
  obtain ⟨n, hn⟩ : ∃ n, s.size = n := ⟨_, rfl⟩
  have Hn := zH hn
  have hn' : (s.size : Int) = (n : Int) := by rw [hn]
  have hle : i ≤ n := by omega
  have hfew : n ≤ 4096 := by omega
  have i0 : (0 : Int) ≤ (i : Int) := Int.natCast_nonneg _
  have i5 : (i : Int) ≤ 4096 := by omega
  subst hii
  clear hn hi
  have hj := name_some (by have := (List.getElem?_eq_some_iff.1 hc).1; exact this) hn
  rw [bs_len] at hj
  have hj1 := hj.2.2.1
  have hj2 := hj.2.2.2
  have ht : t ≠ [] := by
    intro h
    have h2 := congrArg List.length hj.1
    rw [h, cut_len (by rw [bs_len]; exact hj2)] at h2
    simp at h2
    omega
  have j0 : (0 : Int) ≤ (j : Int) := Int.natCast_nonneg _
  have j5 : (j : Int) ≤ 4096 := by omega
  have e1 : ((txt t).toList == []) = false := by
    have := mt txt_empty_iff.1 ht
    simpa using this
  have e1' : ((txt t).toList != []) = true := by
    have := mt txt_empty_iff.1 ht
    simpa using this
  clear hj
  go_enter Tryd.func20, Tryd.ntmps20
  go_upto_region 1 with fail
  have B00 := zH (Below.refl w.heap.size w)
  generalize hws : World.alloc _ _ = w1
  have B1 : Hid (Below w.heap.size w w1) := zH (by rw [← hws]; exact B00.out.alloc zL _)
  have Kr1 : Hid (Blk w1 w.heap.size 30 #[.int .i64 0, .string ⟨#[]⟩, .string ⟨#[]⟩]) := zH (by rw [← hws]; exact Blk.new _ _ _)
  have S1 : w.heap.size ≤ w1.heap.size := by rw [← hws]; simp
  clear hws
  obtain ⟨r0, rz0, r1, rz1, r2, rz2, lr⟩ := Kr1.out.f3r
  have N2 : Hid (Calls Tryd.prog 19 #[.string s, .int .i64 (i : Int), .int .u8 46] w1 fun e w' => e = .returned (.bool false) ∧ w' = w1) := zH (is_any s hs (i) 46 _ _ (by go_num) rfl false (by rw [hc]; rfl) w1)
  go_upto_region 4 with (go_at_call 19; (with_reducible refine N2.out.mono ?_); rintro e w' ⟨rfl, h0⟩; have h0 := h0.symm; subst h0)
  have N3 : Hid (Calls Tryd.prog 19 #[.string s, .int .i64 (i : Int), .int .u8 35] w1 fun e w' => e = .returned (.bool true) ∧ w' = w1) := zH (is_any s hs (i) 35 _ _ (by go_num) rfl true (by rw [hc]; rfl) w1)
  go_upto_region 5 with (go_at_call 19; (with_reducible refine N3.out.mono ?_); rintro e w' ⟨rfl, h0⟩; have h0 := h0.symm; subst h0)
  have N4 : Hid (Calls Tryd.prog 31 #[.string s, .int .i64 ((i : Int) + 1)] w1 fun e w' => e = .returned (.tuple #[.string (txt t), .int .i64 (j : Int)]) ∧ Below w1.heap.size w1 w') := zH (rname_ok hs (b := i + 1) (by have := (List.getElem?_eq_some_iff.1 hc).1; rw [bs_len] at this; exact this) hn _ (by go_num) _)
  go_upto_region 6 with (go_at_call 31; (with_reducible refine N4.out.mono ?_); rintro e v4 ⟨rfl, h1⟩; have B4 : Hid (Below w.heap.size w v4) := zH (B1.out.trans (h1.mono B1.out.size)); have S4 := h1.size; have Kr4 := zH (Kr1.out.below h1 Kr1.out.lt); clear r0 rz0 r1 rz1 r2 rz2 lr h1; obtain ⟨r0, rz0, r1, rz1, r2, rz2, lr⟩ := Kr4.out.f3r)
  go_upto_region 7 with fail
  have hLp : w.heap.size < v4.heap.size := Kr4.out.lt
  generalize hws : World.alloc _ _ = w5
  have B5 : Hid (Below w.heap.size w w5) := zH (by rw [← hws]; exact B4.out.alloc B4.out.size _)
  have Kr5 : Hid (Blk w5 w.heap.size 30 #[.int .i64 0, .string ⟨#[]⟩, .string ⟨#[]⟩]) := zH (by rw [← hws]; exact Kr4.out.alloc _)
  have Kp5 : Hid (Blk w5 v4.heap.size 30 #[.int .i64 3, .string (txt t), .string ⟨#[]⟩]) := zH (by rw [← hws]; exact Blk.new _ _ _)
  have S5 : v4.heap.size ≤ w5.heap.size := by rw [← hws]; simp
  clear r0 rz0 r1 rz1 r2 rz2 lr
  clear hws
  obtain ⟨r0, rz0, r1, rz1, r2, rz2, lr⟩ := Kr5.out.f3r
  obtain ⟨p0, pz0, p1, pz1, p2, pz2, lp⟩ := Kp5.out.f3r
  have N6 : Hid (Calls Tryd.prog 19 #[.string s, .int .i64 (j : Int), .int .u8 32] w5 fun e w' => e = .returned (.bool true) ∧ w' = w5) := zH (is_any s hs (j) 32 _ _ (by go_num) rfl true (by rw [hd]; rfl) w5)
  go_upto_region 9 with (go_at_call 19; (with_reducible refine N6.out.mono ?_); rintro e w' ⟨rfl, h0⟩; have h0 := h0.symm; subst h0)
  have N7 : Hid (Calls Tryd.prog 32 #[.string s, .int .i64 ((j : Int) + 1)] w5 fun e w' => e = .returned (.tuple #[.string ⟨#[]⟩, .int .i64 (k : Int), .int .i64 0]) ∧ Below w5.heap.size w5 w') := zH (runq hs (k := j + 1) (by have := (List.getElem?_eq_some_iff.1 hd).1; rw [bs_len] at this; exact this) hu _ (by go_num) _)
  go_upto_region 10 with (go_at_call 32; (with_reducible refine N7.out.mono ?_); rintro e v7 ⟨rfl, h1⟩; have B7 : Hid (Below w.heap.size w v7) := zH (B5.out.trans (h1.mono B5.out.size)); have S7 := h1.size; have Kr7 := zH (Kr5.out.below h1 Kr5.out.lt); have Kp7 := zH (Kp5.out.below h1 Kp5.out.lt); clear r0 rz0 r1 rz1 r2 rz2 lr p0 pz0 p1 pz1 p2 pz2 lp h1; obtain ⟨r0, rz0, r1, rz1, r2, rz2, lr⟩ := Kr7.out.f3r; obtain ⟨p0, pz0, p1, pz1, p2, pz2, lp⟩ := Kp7.out.f3r)
  go_wp2_with fail
  generalize hws : World.setCell (World.setCell (World.setCell _ _ _) _ _) _ _ = wz
  have KZ : Blk wz w.heap.size 30 #[.int .i64 3, .string (txt t), .string ⟨#[]⟩] := by rw [← hws]; have := ((Kr7.out.set_ 0 (.int .i64 3)).set_ 1 (.string (txt t))).set_ 2 (.string ⟨#[]⟩); simpa using this
  have BZ : Below w.heap.size w wz := by rw [← hws]; exact ((B7.out.setCell (p := ⟨w.heap.size, 0, none⟩) zL _).setCell (p := ⟨w.heap.size, 1, none⟩) zL _).setCell (p := ⟨w.heap.size, 2, none⟩) zL _
  have z0 := KZ.cell (i := 0) rfl
  have z1 := KZ.cell (i := 1) rfl
  have z2 := KZ.cell (i := 2) rfl
  clear hws r0 rz0 r1 rz1 r2 rz2 lr p0 pz0 p1 pz1 p2 pz2 lp
  refine bodyPost_ret (v := .tuple #[.agg #[.int .i64 3, .string (txt t), .string ⟨#[]⟩], .int .i64 ((j : Int) + 2), .bool false]) (by simp [results, Tryd.results20, go_sem, z0, z1, z2]) rfl ?_
  exact ⟨_, _, _, rfl, BZ⟩
theorem rins_mark {s : ByteArray} (hs : s.size ≤ 4096) {i : Nat} (hi : i ≤ s.size) (ii : Int) (hii : ii = (i : Int)) (w : World) {t : List Nat} {j : Nat} (hc : (bs s)[i]? = some 35) (hn : nameS (bs s) (i + 1) = .inl (t, j)) (hd : (bs s)[j]? = some 32) {m : List Nat} {k : Nat} (hu : unquoteN (bs s) ((j + 1 : Nat) : Int) = (m, (k : Int), 0)) (hm : m ≠ []) : Calls Tryd.prog 20 #[.string s, .int .i64 ii] w fun e w' => e = .returned (.tuple #[.agg #[.int .i64 3, .string (txt t), .string (txt m)], .int .i64 (k : Int), .bool true]) ∧ Below w.heap.size w w' := by
  obtain ⟨n, hn⟩ : ∃ n, s.size = n := ⟨_, rfl⟩
  have Hn := zH hn
  have hn' : (s.size : Int) = (n : Int) := by rw [hn]
  have hle : i ≤ n := by omega
  have hfew : n ≤ 4096 := by omega
  have i0 : (0 : Int) ≤ (i : Int) := Int.natCast_nonneg _
  have i5 : (i : Int) ≤ 4096 := by omega
  subst hii
  clear hn hi
  have hj := name_some (by have := (List.getElem?_eq_some_iff.1 hc).1; exact this) hn
  rw [bs_len] at hj
  have hj1 := hj.2.2.1
  have hj2 := hj.2.2.2
  have ht : t ≠ [] := by
    intro h
    have h2 := congrArg List.length hj.1
    rw [h, cut_len (by rw [bs_len]; exact hj2)] at h2
    simp at h2
    omega
  have j0 : (0 : Int) ≤ (j : Int) := Int.natCast_nonneg _
  have j5 : (j : Int) ≤ 4096 := by omega
  have e1 : ((txt t).toList == []) = false := by
    have := mt txt_empty_iff.1 ht
    simpa using this
  have e1' : ((txt t).toList != []) = true := by
    have := mt txt_empty_iff.1 ht
    simpa using this
  clear hj
  have e6 : ((txt m).toList == []) = false := by
    have := mt txt_empty_iff.1 hm
    simpa using this
  go_enter Tryd.func20, Tryd.ntmps20
  go_upto_region 1 with fail
  have B00 := zH (Below.refl w.heap.size w)
  generalize hws : World.alloc _ _ = w1
  have B1 : Hid (Below w.heap.size w w1) := zH (by rw [← hws]; exact B00.out.alloc zL _)
  have Kr1 : Hid (Blk w1 w.heap.size 30 #[.int .i64 0, .string ⟨#[]⟩, .string ⟨#[]⟩]) := zH (by rw [← hws]; exact Blk.new _ _ _)
  have S1 : w.heap.size ≤ w1.heap.size := by rw [← hws]; simp
  clear hws
  obtain ⟨r0, rz0, r1, rz1, r2, rz2, lr⟩ := Kr1.out.f3r
  have N2 : Hid (Calls Tryd.prog 19 #[.string s, .int .i64 (i : Int), .int .u8 46] w1 fun e w' => e = .returned (.bool false) ∧ w' = w1) := zH (is_any s hs (i) 46 _ _ (by go_num) rfl false (by rw [hc]; rfl) w1)
  go_upto_region 4 with (go_at_call 19; (with_reducible refine N2.out.mono ?_); rintro e w' ⟨rfl, h0⟩; have h0 := h0.symm; subst h0)
  have N3 : Hid (Calls Tryd.prog 19 #[.string s, .int .i64 (i : Int), .int .u8 35] w1 fun e w' => e = .returned (.bool true) ∧ w' = w1) := zH (is_any s hs (i) 35 _ _ (by go_num) rfl true (by rw [hc]; rfl) w1)
  go_upto_region 5 with (go_at_call 19; (with_reducible refine N3.out.mono ?_); rintro e w' ⟨rfl, h0⟩; have h0 := h0.symm; subst h0)
  have N4 : Hid (Calls Tryd.prog 31 #[.string s, .int .i64 ((i : Int) + 1)] w1 fun e w' => e = .returned (.tuple #[.string (txt t), .int .i64 (j : Int)]) ∧ Below w1.heap.size w1 w') := zH (rname_ok hs (b := i + 1) (by have := (List.getElem?_eq_some_iff.1 hc).1; rw [bs_len] at this; exact this) hn _ (by go_num) _)
  go_upto_region 6 with (go_at_call 31; (with_reducible refine N4.out.mono ?_); rintro e v4 ⟨rfl, h1⟩; have B4 : Hid (Below w.heap.size w v4) := zH (B1.out.trans (h1.mono B1.out.size)); have S4 := h1.size; have Kr4 := zH (Kr1.out.below h1 Kr1.out.lt); clear r0 rz0 r1 rz1 r2 rz2 lr h1; obtain ⟨r0, rz0, r1, rz1, r2, rz2, lr⟩ := Kr4.out.f3r)
  go_upto_region 7 with fail
  have hLp : w.heap.size < v4.heap.size := Kr4.out.lt
  generalize hws : World.alloc _ _ = w5
  have B5 : Hid (Below w.heap.size w w5) := zH (by rw [← hws]; exact B4.out.alloc B4.out.size _)
  have Kr5 : Hid (Blk w5 w.heap.size 30 #[.int .i64 0, .string ⟨#[]⟩, .string ⟨#[]⟩]) := zH (by rw [← hws]; exact Kr4.out.alloc _)
  have Kp5 : Hid (Blk w5 v4.heap.size 30 #[.int .i64 3, .string (txt t), .string ⟨#[]⟩]) := zH (by rw [← hws]; exact Blk.new _ _ _)
  have S5 : v4.heap.size ≤ w5.heap.size := by rw [← hws]; simp
  clear r0 rz0 r1 rz1 r2 rz2 lr
  clear hws
  obtain ⟨r0, rz0, r1, rz1, r2, rz2, lr⟩ := Kr5.out.f3r
  obtain ⟨p0, pz0, p1, pz1, p2, pz2, lp⟩ := Kp5.out.f3r
  have N6 : Hid (Calls Tryd.prog 19 #[.string s, .int .i64 (j : Int), .int .u8 32] w5 fun e w' => e = .returned (.bool true) ∧ w' = w5) := zH (is_any s hs (j) 32 _ _ (by go_num) rfl true (by rw [hd]; rfl) w5)
  go_upto_region 9 with (go_at_call 19; (with_reducible refine N6.out.mono ?_); rintro e w' ⟨rfl, h0⟩; have h0 := h0.symm; subst h0)
  have N7 : Hid (Calls Tryd.prog 32 #[.string s, .int .i64 ((j : Int) + 1)] w5 fun e w' => e = .returned (.tuple #[.string (txt m), .int .i64 (k : Int), .int .i64 0]) ∧ Below w5.heap.size w5 w') := zH (runq hs (k := j + 1) (by have := (List.getElem?_eq_some_iff.1 hd).1; rw [bs_len] at this; exact this) hu _ (by go_num) _)
  go_upto_region 10 with (go_at_call 32; (with_reducible refine N7.out.mono ?_); rintro e v7 ⟨rfl, h1⟩; have B7 : Hid (Below w.heap.size w v7) := zH (B5.out.trans (h1.mono B5.out.size)); have S7 := h1.size; have Kr7 := zH (Kr5.out.below h1 Kr5.out.lt); have Kp7 := zH (Kp5.out.below h1 Kp5.out.lt); clear r0 rz0 r1 rz1 r2 rz2 lr p0 pz0 p1 pz1 p2 pz2 lp h1; obtain ⟨r0, rz0, r1, rz1, r2, rz2, lr⟩ := Kr7.out.f3r; obtain ⟨p0, pz0, p1, pz1, p2, pz2, lp⟩ := Kp7.out.f3r)
  go_upto_region 13 with fail
  generalize hws : World.setCell _ _ _ = w8
  have B8 : Hid (Below w.heap.size w w8) := zH (by rw [← hws]; exact B7.out.setCell (p := ⟨v4.heap.size, 2, none⟩) (by show w.heap.size ≤ v4.heap.size; omega) _)
  have Kr8 : Hid (Blk w8 w.heap.size 30 #[.int .i64 0, .string ⟨#[]⟩, .string ⟨#[]⟩]) := zH (by rw [← hws]; exact Kr7.out.far (p := ⟨v4.heap.size, 2, none⟩) (by show w.heap.size ≠ v4.heap.size; omega) _)
  have Kp8 : Hid (Blk w8 v4.heap.size 30 #[.int .i64 3, .string (txt t), .string (txt m)]) := zH (by rw [← hws]; exact (by have := Kp7.out.set_ 2 (.string (txt m)); simpa using this))
  have S8 : v7.heap.size ≤ w8.heap.size := by rw [← hws]; simp
  clear r0 rz0 r1 rz1 r2 rz2 lr p0 pz0 p1 pz1 p2 pz2 lp
  clear hws
  obtain ⟨r0, rz0, r1, rz1, r2, rz2, lr⟩ := Kr8.out.f3r
  obtain ⟨p0, pz0, p1, pz1, p2, pz2, lp⟩ := Kp8.out.f3r
  go_wp2_with fail
  generalize hws : World.setCell (World.setCell (World.setCell _ _ _) _ _) _ _ = wz
  have KZ : Blk wz w.heap.size 30 #[.int .i64 3, .string (txt t), .string (txt m)] := by rw [← hws]; have := ((Kr8.out.set_ 0 (.int .i64 3)).set_ 1 (.string (txt t))).set_ 2 (.string (txt m)); simpa using this
  have BZ : Below w.heap.size w wz := by rw [← hws]; exact ((B8.out.setCell (p := ⟨w.heap.size, 0, none⟩) zL _).setCell (p := ⟨w.heap.size, 1, none⟩) zL _).setCell (p := ⟨w.heap.size, 2, none⟩) zL _
  have z0 := KZ.cell (i := 0) rfl
  have z1 := KZ.cell (i := 1) rfl
  have z2 := KZ.cell (i := 2) rfl
  clear hws r0 rz0 r1 rz1 r2 rz2 lr p0 pz0 p1 pz1 p2 pz2 lp
  refine bodyPost_ret (v := .tuple #[.agg #[.int .i64 3, .string (txt t), .string (txt m)], .int .i64 (k : Int), .bool true]) (by simp [results, Tryd.results20, go_sem, z0, z1, z2]) rfl ?_
  exact ⟨rfl, BZ⟩
theorem rins_ref_no {s : ByteArray} (hs : s.size ≤ 4096) {i : Nat} (hi : i ≤ s.size) (ii : Int) (hii : ii = (i : Int)) (w : World) (hc : (bs s)[i]? = some 45) (he : (bs s)[i + 1]? ≠ some 62) : Calls Tryd.prog 20 #[.string s, .int .i64 ii] w fun e w' => ∃ (a : Int) (b c : ByteArray), e = .returned (.tuple #[.agg #[.int .i64 a, .string b, .string c], .int .i64 ((i : Int) + 1), .bool false]) ∧ Below w.heap.size w w' := by
  obtain ⟨n, hn⟩ : ∃ n, s.size = n := ⟨_, rfl⟩
  have Hn := zH hn
  have hn' : (s.size : Int) = (n : Int) := by rw [hn]
  have hle : i ≤ n := by omega
  have hfew : n ≤ 4096 := by omega
  have i0 : (0 : Int) ≤ (i : Int) := Int.natCast_nonneg _
  have i5 : (i : Int) ≤ 4096 := by omega
  subst hii
  clear hn hi
  go_enter Tryd.func20, Tryd.ntmps20
  go_upto_region 1 with fail
  have B00 := zH (Below.refl w.heap.size w)
  generalize hws : World.alloc _ _ = w1
  have B1 : Hid (Below w.heap.size w w1) := zH (by rw [← hws]; exact B00.out.alloc zL _)
  have Kr1 : Hid (Blk w1 w.heap.size 30 #[.int .i64 0, .string ⟨#[]⟩, .string ⟨#[]⟩]) := zH (by rw [← hws]; exact Blk.new _ _ _)
  have S1 : w.heap.size ≤ w1.heap.size := by rw [← hws]; simp
  clear hws
  obtain ⟨r0, rz0, r1, rz1, r2, rz2, lr⟩ := Kr1.out.f3r
  have N2 : Hid (Calls Tryd.prog 19 #[.string s, .int .i64 (i : Int), .int .u8 46] w1 fun e w' => e = .returned (.bool false) ∧ w' = w1) := zH (is_any s hs (i) 46 _ _ (by go_num) rfl false (by rw [hc]; rfl) w1)
  go_upto_region 4 with (go_at_call 19; (with_reducible refine N2.out.mono ?_); rintro e w' ⟨rfl, h0⟩; have h0 := h0.symm; subst h0)
  have N3 : Hid (Calls Tryd.prog 19 #[.string s, .int .i64 (i : Int), .int .u8 35] w1 fun e w' => e = .returned (.bool false) ∧ w' = w1) := zH (is_any s hs (i) 35 _ _ (by go_num) rfl false (by rw [hc]; rfl) w1)
  go_upto_region 14 with (go_at_call 19; (with_reducible refine N3.out.mono ?_); rintro e w' ⟨rfl, h0⟩; have h0 := h0.symm; subst h0)
  have N4 : Hid (Calls Tryd.prog 19 #[.string s, .int .i64 (i : Int), .int .u8 45] w1 fun e w' => e = .returned (.bool true) ∧ w' = w1) := zH (is_any s hs (i) 45 _ _ (by go_num) rfl true (by rw [hc]; rfl) w1)
  go_upto_region 15 with (go_at_call 19; (with_reducible refine N4.out.mono ?_); rintro e w' ⟨rfl, h0⟩; have h0 := h0.symm; subst h0)
  have N5 : Hid (Calls Tryd.prog 19 #[.string s, .int .i64 ((i : Int) + 1), .int .u8 62] w1 fun e w' => e = .returned (.bool false) ∧ w' = w1) := zH (is_any s hs (i + 1) 62 _ _ (by go_num) rfl false (by simpa using he) w1)
  go_upto_region 16 with (go_at_call 19; (with_reducible refine N5.out.mono ?_); rintro e w' ⟨rfl, h0⟩; have h0 := h0.symm; subst h0)
  go_wp2_with fail
  generalize hws : World.setCell (World.setCell (World.setCell _ _ _) _ _) _ _ = wz
  have KZ : Blk wz w.heap.size 30 #[.int .i64 0, .string ⟨#[]⟩, .string ⟨#[]⟩] := by rw [← hws]; have := ((Kr1.out.set_ 0 (.int .i64 0)).set_ 1 (.string ⟨#[]⟩)).set_ 2 (.string ⟨#[]⟩); simpa using this
  have BZ : Below w.heap.size w wz := by rw [← hws]; exact ((B1.out.setCell (p := ⟨w.heap.size, 0, none⟩) zL _).setCell (p := ⟨w.heap.size, 1, none⟩) zL _).setCell (p := ⟨w.heap.size, 2, none⟩) zL _
  have z0 := KZ.cell (i := 0) rfl
  have z1 := KZ.cell (i := 1) rfl
  have z2 := KZ.cell (i := 2) rfl
  clear hws r0 rz0 r1 rz1 r2 rz2 lr
  refine bodyPost_ret (v := .tuple #[.agg #[.int .i64 0, .string ⟨#[]⟩, .string ⟨#[]⟩], .int .i64 ((i : Int) + 1), .bool false]) (by simp [results, Tryd.results20, go_sem, z0, z1, z2]) rfl ?_
  exact ⟨_, _, _, rfl, BZ⟩
theorem rins_refn_no {s : ByteArray} (hs : s.size ≤ 4096) {i : Nat} (hi : i ≤ s.size) (ii : Int) (hii : ii = (i : Int)) (w : World) {j : Nat} (hc : (bs s)[i]? = some 45) (he : (bs s)[i + 1]? = some 62) (hn : nameS (bs s) (i + 2) = .inr j) : Calls Tryd.prog 20 #[.string s, .int .i64 ii] w fun e w' => ∃ (a : Int) (b c : ByteArray), e = .returned (.tuple #[.agg #[.int .i64 a, .string b, .string c], .int .i64 (j : Int), .bool false]) ∧ Below w.heap.size w w' := by
  obtain ⟨n, hn⟩ : ∃ n, s.size = n := ⟨_, rfl⟩
  have Hn := zH hn
  have hn' : (s.size : Int) = (n : Int) := by rw [hn]
  have hle : i ≤ n := by omega
  have hfew : n ≤ 4096 := by omega
  have i0 : (0 : Int) ≤ (i : Int) := Int.natCast_nonneg _
  have i5 : (i : Int) ≤ 4096 := by omega
  subst hii
  clear hn hi
  go_enter Tryd.func20, Tryd.ntmps20
  go_upto_region 1 with fail
  have B00 := zH (Below.refl w.heap.size w)
  generalize hws : World.alloc _ _ = w1
  have B1 : Hid (Below w.heap.size w w1) := zH (by rw [← hws]; exact B00.out.alloc zL _)
  have Kr1 : Hid (Blk w1 w.heap.size 30 #[.int .i64 0, .string ⟨#[]⟩, .string ⟨#[]⟩]) := zH (by rw [← hws]; exact Blk.new _ _ _)
  have S1 : w.heap.size ≤ w1.heap.size := by rw [← hws]; simp
  clear hws
  obtain ⟨r0, rz0, r1, rz1, r2, rz2, lr⟩ := Kr1.out.f3r
  have N2 : Hid (Calls Tryd.prog 19 #[.string s, .int .i64 (i : Int), .int .u8 46] w1 fun e w' => e = .returned (.bool false) ∧ w' = w1) := zH (is_any s hs (i) 46 _ _ (by go_num) rfl false (by rw [hc]; rfl) w1)
  go_upto_region 4 with (go_at_call 19; (with_reducible refine N2.out.mono ?_); rintro e w' ⟨rfl, h0⟩; have h0 := h0.symm; subst h0)
  have N3 : Hid (Calls Tryd.prog 19 #[.string s, .int .i64 (i : Int), .int .u8 35] w1 fun e w' => e = .returned (.bool false) ∧ w' = w1) := zH (is_any s hs (i) 35 _ _ (by go_num) rfl false (by rw [hc]; rfl) w1)
  go_upto_region 14 with (go_at_call 19; (with_reducible refine N3.out.mono ?_); rintro e w' ⟨rfl, h0⟩; have h0 := h0.symm; subst h0)
  have N4 : Hid (Calls Tryd.prog 19 #[.string s, .int .i64 (i : Int), .int .u8 45] w1 fun e w' => e = .returned (.bool true) ∧ w' = w1) := zH (is_any s hs (i) 45 _ _ (by go_num) rfl true (by rw [hc]; rfl) w1)
  go_upto_region 15 with (go_at_call 19; (with_reducible refine N4.out.mono ?_); rintro e w' ⟨rfl, h0⟩; have h0 := h0.symm; subst h0)
  have N5 : Hid (Calls Tryd.prog 19 #[.string s, .int .i64 ((i : Int) + 1), .int .u8 62] w1 fun e w' => e = .returned (.bool true) ∧ w' = w1) := zH (is_any s hs (i + 1) 62 _ _ (by go_num) rfl true (by rw [he]; rfl) w1)
  go_upto_region 17 with (go_at_call 19; (with_reducible refine N5.out.mono ?_); rintro e w' ⟨rfl, h0⟩; have h0 := h0.symm; subst h0)
  have N6 : Hid (Calls Tryd.prog 31 #[.string s, .int .i64 ((i : Int) + 2)] w1 fun e w' => e = .returned (.tuple #[.string ⟨#[]⟩, .int .i64 (j : Int)]) ∧ Below w1.heap.size w1 w') := zH (rname_no hs (b := i + 2) (by have := (List.getElem?_eq_some_iff.1 he).1; rw [bs_len] at this; exact this) hn _ (by go_num) _)
  go_upto_region 18 with (go_at_call 31; (with_reducible refine N6.out.mono ?_); rintro e v6 ⟨rfl, h1⟩; have B6 : Hid (Below w.heap.size w v6) := zH (B1.out.trans (h1.mono B1.out.size)); have S6 := h1.size; have Kr6 := zH (Kr1.out.below h1 Kr1.out.lt); clear r0 rz0 r1 rz1 r2 rz2 lr h1; obtain ⟨r0, rz0, r1, rz1, r2, rz2, lr⟩ := Kr6.out.f3r)
  go_upto_region 19 with fail
  have hLp : w.heap.size < v6.heap.size := Kr6.out.lt
  generalize hws : World.alloc _ _ = w7
  have B7 : Hid (Below w.heap.size w w7) := zH (by rw [← hws]; exact B6.out.alloc B6.out.size _)
  have Kr7 : Hid (Blk w7 w.heap.size 30 #[.int .i64 0, .string ⟨#[]⟩, .string ⟨#[]⟩]) := zH (by rw [← hws]; exact Kr6.out.alloc _)
  have Kp7 : Hid (Blk w7 v6.heap.size 30 #[.int .i64 4, .string ⟨#[]⟩, .string ⟨#[]⟩]) := zH (by rw [← hws]; exact Blk.new _ _ _)
  have S7 : v6.heap.size ≤ w7.heap.size := by rw [← hws]; simp
  clear r0 rz0 r1 rz1 r2 rz2 lr
  clear hws
  obtain ⟨r0, rz0, r1, rz1, r2, rz2, lr⟩ := Kr7.out.f3r
  obtain ⟨p0, pz0, p1, pz1, p2, pz2, lp⟩ := Kp7.out.f3r
  go_wp2_with fail
  generalize hws : World.setCell (World.setCell (World.setCell _ _ _) _ _) _ _ = wz
  have KZ : Blk wz w.heap.size 30 #[.int .i64 4, .string ⟨#[]⟩, .string ⟨#[]⟩] := by rw [← hws]; have := ((Kr7.out.set_ 0 (.int .i64 4)).set_ 1 (.string ⟨#[]⟩)).set_ 2 (.string ⟨#[]⟩); simpa using this
  have BZ : Below w.heap.size w wz := by rw [← hws]; exact ((B7.out.setCell (p := ⟨w.heap.size, 0, none⟩) zL _).setCell (p := ⟨w.heap.size, 1, none⟩) zL _).setCell (p := ⟨w.heap.size, 2, none⟩) zL _
  have z0 := KZ.cell (i := 0) rfl
  have z1 := KZ.cell (i := 1) rfl
  have z2 := KZ.cell (i := 2) rfl
  clear hws r0 rz0 r1 rz1 r2 rz2 lr p0 pz0 p1 pz1 p2 pz2 lp
  refine bodyPost_ret (v := .tuple #[.agg #[.int .i64 4, .string ⟨#[]⟩, .string ⟨#[]⟩], .int .i64 (j : Int), .bool false]) (by simp [results, Tryd.results20, go_sem, z0, z1, z2]) rfl ?_
  exact ⟨_, _, _, rfl, BZ⟩
theorem rins_ref {s : ByteArray} (hs : s.size ≤ 4096) {i : Nat} (hi : i ≤ s.size) (ii : Int) (hii : ii = (i : Int)) (w : World) {t : List Nat} {j : Nat} (hc : (bs s)[i]? = some 45) (he : (bs s)[i + 1]? = some 62) (hn : nameS (bs s) (i + 2) = .inl (t, j)) (hd : (bs s)[j]? ≠ some 46) : Calls Tryd.prog 20 #[.string s, .int .i64 ii] w fun e w' => e = .returned (.tuple #[.agg #[.int .i64 4, .string (txt t), .string ⟨#[]⟩], .int .i64 (j : Int), .bool true]) ∧ Below w.heap.size w w' := by
  obtain ⟨n, hn⟩ : ∃ n, s.size = n := ⟨_, rfl⟩
  have Hn := zH hn
  have hn' : (s.size : Int) = (n : Int) := by rw [hn]
  have hle : i ≤ n := by omega
  have hfew : n ≤ 4096 := by omega
  have i0 : (0 : Int) ≤ (i : Int) := Int.natCast_nonneg _
  have i5 : (i : Int) ≤ 4096 := by omega
  subst hii
  clear hn hi
  have hj := name_some (by have := (List.getElem?_eq_some_iff.1 he).1; exact this) hn
  rw [bs_len] at hj
  have hj1 := hj.2.2.1
  have hj2 := hj.2.2.2
  have ht : t ≠ [] := by
    intro h
    have h2 := congrArg List.length hj.1
    rw [h, cut_len (by rw [bs_len]; exact hj2)] at h2
    simp at h2
    omega
  have j0 : (0 : Int) ≤ (j : Int) := Int.natCast_nonneg _
  have j5 : (j : Int) ≤ 4096 := by omega
  have e1 : ((txt t).toList == []) = false := by
    have := mt txt_empty_iff.1 ht
    simpa using this
  have e1' : ((txt t).toList != []) = true := by
    have := mt txt_empty_iff.1 ht
    simpa using this
  clear hj
  go_enter Tryd.func20, Tryd.ntmps20
  go_upto_region 1 with fail
  have B00 := zH (Below.refl w.heap.size w)
  generalize hws : World.alloc _ _ = w1
  have B1 : Hid (Below w.heap.size w w1) := zH (by rw [← hws]; exact B00.out.alloc zL _)
  have Kr1 : Hid (Blk w1 w.heap.size 30 #[.int .i64 0, .string ⟨#[]⟩, .string ⟨#[]⟩]) := zH (by rw [← hws]; exact Blk.new _ _ _)
  have S1 : w.heap.size ≤ w1.heap.size := by rw [← hws]; simp
  clear hws
  obtain ⟨r0, rz0, r1, rz1, r2, rz2, lr⟩ := Kr1.out.f3r
  have N2 : Hid (Calls Tryd.prog 19 #[.string s, .int .i64 (i : Int), .int .u8 46] w1 fun e w' => e = .returned (.bool false) ∧ w' = w1) := zH (is_any s hs (i) 46 _ _ (by go_num) rfl false (by rw [hc]; rfl) w1)
  go_upto_region 4 with (go_at_call 19; (with_reducible refine N2.out.mono ?_); rintro e w' ⟨rfl, h0⟩; have h0 := h0.symm; subst h0)
  have N3 : Hid (Calls Tryd.prog 19 #[.string s, .int .i64 (i : Int), .int .u8 35] w1 fun e w' => e = .returned (.bool false) ∧ w' = w1) := zH (is_any s hs (i) 35 _ _ (by go_num) rfl false (by rw [hc]; rfl) w1)
  go_upto_region 14 with (go_at_call 19; (with_reducible refine N3.out.mono ?_); rintro e w' ⟨rfl, h0⟩; have h0 := h0.symm; subst h0)
  have N4 : Hid (Calls Tryd.prog 19 #[.string s, .int .i64 (i : Int), .int .u8 45] w1 fun e w' => e = .returned (.bool true) ∧ w' = w1) := zH (is_any s hs (i) 45 _ _ (by go_num) rfl true (by rw [hc]; rfl) w1)
  go_upto_region 15 with (go_at_call 19; (with_reducible refine N4.out.mono ?_); rintro e w' ⟨rfl, h0⟩; have h0 := h0.symm; subst h0)
  have N5 : Hid (Calls Tryd.prog 19 #[.string s, .int .i64 ((i : Int) + 1), .int .u8 62] w1 fun e w' => e = .returned (.bool true) ∧ w' = w1) := zH (is_any s hs (i + 1) 62 _ _ (by go_num) rfl true (by rw [he]; rfl) w1)
  go_upto_region 17 with (go_at_call 19; (with_reducible refine N5.out.mono ?_); rintro e w' ⟨rfl, h0⟩; have h0 := h0.symm; subst h0)
  have N6 : Hid (Calls Tryd.prog 31 #[.string s, .int .i64 ((i : Int) + 2)] w1 fun e w' => e = .returned (.tuple #[.string (txt t), .int .i64 (j : Int)]) ∧ Below w1.heap.size w1 w') := zH (rname_ok hs (b := i + 2) (by have := (List.getElem?_eq_some_iff.1 he).1; rw [bs_len] at this; exact this) hn _ (by go_num) _)
  go_upto_region 18 with (go_at_call 31; (with_reducible refine N6.out.mono ?_); rintro e v6 ⟨rfl, h1⟩; have B6 : Hid (Below w.heap.size w v6) := zH (B1.out.trans (h1.mono B1.out.size)); have S6 := h1.size; have Kr6 := zH (Kr1.out.below h1 Kr1.out.lt); clear r0 rz0 r1 rz1 r2 rz2 lr h1; obtain ⟨r0, rz0, r1, rz1, r2, rz2, lr⟩ := Kr6.out.f3r)
  go_upto_region 19 with fail
  have hLp : w.heap.size < v6.heap.size := Kr6.out.lt
  generalize hws : World.alloc _ _ = w7
  have B7 : Hid (Below w.heap.size w w7) := zH (by rw [← hws]; exact B6.out.alloc B6.out.size _)
  have Kr7 : Hid (Blk w7 w.heap.size 30 #[.int .i64 0, .string ⟨#[]⟩, .string ⟨#[]⟩]) := zH (by rw [← hws]; exact Kr6.out.alloc _)
  have Kp7 : Hid (Blk w7 v6.heap.size 30 #[.int .i64 4, .string (txt t), .string ⟨#[]⟩]) := zH (by rw [← hws]; exact Blk.new _ _ _)
  have S7 : v6.heap.size ≤ w7.heap.size := by rw [← hws]; simp
  clear r0 rz0 r1 rz1 r2 rz2 lr
  clear hws
  obtain ⟨r0, rz0, r1, rz1, r2, rz2, lr⟩ := Kr7.out.f3r
  obtain ⟨p0, pz0, p1, pz1, p2, pz2, lp⟩ := Kp7.out.f3r
  have N8 : Hid (Calls Tryd.prog 19 #[.string s, .int .i64 (j : Int), .int .u8 46] w7 fun e w' => e = .returned (.bool false) ∧ w' = w7) := zH (is_any s hs (j) 46 _ _ (by go_num) rfl false (by simpa using hd) w7)
  go_upto_region 20 with (go_at_call 19; (with_reducible refine N8.out.mono ?_); rintro e w' ⟨rfl, h0⟩; have h0 := h0.symm; subst h0)
  go_wp2_with fail
  generalize hws : World.setCell (World.setCell (World.setCell _ _ _) _ _) _ _ = wz
  have KZ : Blk wz w.heap.size 30 #[.int .i64 4, .string (txt t), .string ⟨#[]⟩] := by rw [← hws]; have := ((Kr7.out.set_ 0 (.int .i64 4)).set_ 1 (.string (txt t))).set_ 2 (.string ⟨#[]⟩); simpa using this
  have BZ : Below w.heap.size w wz := by rw [← hws]; exact ((B7.out.setCell (p := ⟨w.heap.size, 0, none⟩) zL _).setCell (p := ⟨w.heap.size, 1, none⟩) zL _).setCell (p := ⟨w.heap.size, 2, none⟩) zL _
  have z0 := KZ.cell (i := 0) rfl
  have z1 := KZ.cell (i := 1) rfl
  have z2 := KZ.cell (i := 2) rfl
  clear hws r0 rz0 r1 rz1 r2 rz2 lr p0 pz0 p1 pz1 p2 pz2 lp
  refine bodyPost_ret (v := .tuple #[.agg #[.int .i64 4, .string (txt t), .string ⟨#[]⟩], .int .i64 (j : Int), .bool true]) (by simp [results, Tryd.results20, go_sem, z0, z1, z2]) rfl ?_
  exact ⟨rfl, BZ⟩
theorem rins_refm_no {s : ByteArray} (hs : s.size ≤ 4096) {i : Nat} (hi : i ≤ s.size) (ii : Int) (hii : ii = (i : Int)) (w : World) {t : List Nat} {j : Nat} (hc : (bs s)[i]? = some 45) (he : (bs s)[i + 1]? = some 62) (hn : nameS (bs s) (i + 2) = .inl (t, j)) (hd : (bs s)[j]? = some 46) {k : Nat} (hm : nameS (bs s) (j + 1) = .inr k) : Calls Tryd.prog 20 #[.string s, .int .i64 ii] w fun e w' => ∃ (a : Int) (b c : ByteArray), e = .returned (.tuple #[.agg #[.int .i64 a, .string b, .string c], .int .i64 (k : Int), .bool false]) ∧ Below w.heap.size w w' := by
  obtain ⟨n, hn⟩ : ∃ n, s.size = n := ⟨_, rfl⟩
  have Hn := zH hn
  have hn' : (s.size : Int) = (n : Int) := by rw [hn]
  have hle : i ≤ n := by omega
  have hfew : n ≤ 4096 := by omega
  have i0 : (0 : Int) ≤ (i : Int) := Int.natCast_nonneg _
  have i5 : (i : Int) ≤ 4096 := by omega
  subst hii
  clear hn hi
  have hj := name_some (by have := (List.getElem?_eq_some_iff.1 he).1; exact this) hn
  rw [bs_len] at hj
  have hj1 := hj.2.2.1
  have hj2 := hj.2.2.2
  have ht : t ≠ [] := by
    intro h
    have h2 := congrArg List.length hj.1
    rw [h, cut_len (by rw [bs_len]; exact hj2)] at h2
    simp at h2
    omega
  have j0 : (0 : Int) ≤ (j : Int) := Int.natCast_nonneg _
  have j5 : (j : Int) ≤ 4096 := by omega
  have e1 : ((txt t).toList == []) = false := by
    have := mt txt_empty_iff.1 ht
    simpa using this
  have e1' : ((txt t).toList != []) = true := by
    have := mt txt_empty_iff.1 ht
    simpa using this
  clear hj
  go_enter Tryd.func20, Tryd.ntmps20
  go_upto_region 1 with fail
  have B00 := zH (Below.refl w.heap.size w)
  generalize hws : World.alloc _ _ = w1
  have B1 : Hid (Below w.heap.size w w1) := zH (by rw [← hws]; exact B00.out.alloc zL _)
  have Kr1 : Hid (Blk w1 w.heap.size 30 #[.int .i64 0, .string ⟨#[]⟩, .string ⟨#[]⟩]) := zH (by rw [← hws]; exact Blk.new _ _ _)
  have S1 : w.heap.size ≤ w1.heap.size := by rw [← hws]; simp
  clear hws
  obtain ⟨r0, rz0, r1, rz1, r2, rz2, lr⟩ := Kr1.out.f3r
  have N2 : Hid (Calls Tryd.prog 19 #[.string s, .int .i64 (i : Int), .int .u8 46] w1 fun e w' => e = .returned (.bool false) ∧ w' = w1) := zH (is_any s hs (i) 46 _ _ (by go_num) rfl false (by rw [hc]; rfl) w1)
  go_upto_region 4 with (go_at_call 19; (with_reducible refine N2.out.mono ?_); rintro e w' ⟨rfl, h0⟩; have h0 := h0.symm; subst h0)
  have N3 : Hid (Calls Tryd.prog 19 #[.string s, .int .i64 (i : Int), .int .u8 35] w1 fun e w' => e = .returned (.bool false) ∧ w' = w1) := zH (is_any s hs (i) 35 _ _ (by go_num) rfl false (by rw [hc]; rfl) w1)
  go_upto_region 14 with (go_at_call 19; (with_reducible refine N3.out.mono ?_); rintro e w' ⟨rfl, h0⟩; have h0 := h0.symm; subst h0)
  have N4 : Hid (Calls Tryd.prog 19 #[.string s, .int .i64 (i : Int), .int .u8 45] w1 fun e w' => e = .returned (.bool true) ∧ w' = w1) := zH (is_any s hs (i) 45 _ _ (by go_num) rfl true (by rw [hc]; rfl) w1)
  go_upto_region 15 with (go_at_call 19; (with_reducible refine N4.out.mono ?_); rintro e w' ⟨rfl, h0⟩; have h0 := h0.symm; subst h0)
  have N5 : Hid (Calls Tryd.prog 19 #[.string s, .int .i64 ((i : Int) + 1), .int .u8 62] w1 fun e w' => e = .returned (.bool true) ∧ w' = w1) := zH (is_any s hs (i + 1) 62 _ _ (by go_num) rfl true (by rw [he]; rfl) w1)
  go_upto_region 17 with (go_at_call 19; (with_reducible refine N5.out.mono ?_); rintro e w' ⟨rfl, h0⟩; have h0 := h0.symm; subst h0)
  have N6 : Hid (Calls Tryd.prog 31 #[.string s, .int .i64 ((i : Int) + 2)] w1 fun e w' => e = .returned (.tuple #[.string (txt t), .int .i64 (j : Int)]) ∧ Below w1.heap.size w1 w') := zH (rname_ok hs (b := i + 2) (by have := (List.getElem?_eq_some_iff.1 he).1; rw [bs_len] at this; exact this) hn _ (by go_num) _)
  go_upto_region 18 with (go_at_call 31; (with_reducible refine N6.out.mono ?_); rintro e v6 ⟨rfl, h1⟩; have B6 : Hid (Below w.heap.size w v6) := zH (B1.out.trans (h1.mono B1.out.size)); have S6 := h1.size; have Kr6 := zH (Kr1.out.below h1 Kr1.out.lt); clear r0 rz0 r1 rz1 r2 rz2 lr h1; obtain ⟨r0, rz0, r1, rz1, r2, rz2, lr⟩ := Kr6.out.f3r)
  go_upto_region 19 with fail
  have hLp : w.heap.size < v6.heap.size := Kr6.out.lt
  generalize hws : World.alloc _ _ = w7
  have B7 : Hid (Below w.heap.size w w7) := zH (by rw [← hws]; exact B6.out.alloc B6.out.size _)
  have Kr7 : Hid (Blk w7 w.heap.size 30 #[.int .i64 0, .string ⟨#[]⟩, .string ⟨#[]⟩]) := zH (by rw [← hws]; exact Kr6.out.alloc _)
  have Kp7 : Hid (Blk w7 v6.heap.size 30 #[.int .i64 4, .string (txt t), .string ⟨#[]⟩]) := zH (by rw [← hws]; exact Blk.new _ _ _)
  have S7 : v6.heap.size ≤ w7.heap.size := by rw [← hws]; simp
  clear r0 rz0 r1 rz1 r2 rz2 lr
  clear hws
  obtain ⟨r0, rz0, r1, rz1, r2, rz2, lr⟩ := Kr7.out.f3r
  obtain ⟨p0, pz0, p1, pz1, p2, pz2, lp⟩ := Kp7.out.f3r
  have N8 : Hid (Calls Tryd.prog 19 #[.string s, .int .i64 (j : Int), .int .u8 46] w7 fun e w' => e = .returned (.bool true) ∧ w' = w7) := zH (is_any s hs (j) 46 _ _ (by go_num) rfl true (by rw [hd]; rfl) w7)
  go_upto_region 21 with (go_at_call 19; (with_reducible refine N8.out.mono ?_); rintro e w' ⟨rfl, h0⟩; have h0 := h0.symm; subst h0)
  have N9 : Hid (Calls Tryd.prog 31 #[.string s, .int .i64 ((j : Int) + 1)] w7 fun e w' => e = .returned (.tuple #[.string ⟨#[]⟩, .int .i64 (k : Int)]) ∧ Below w7.heap.size w7 w') := zH (rname_no hs (b := j + 1) (by have := (List.getElem?_eq_some_iff.1 hd).1; rw [bs_len] at this; exact this) hm _ (by go_num) _)
  go_upto_region 22 with (go_at_call 31; (with_reducible refine N9.out.mono ?_); rintro e v9 ⟨rfl, h1⟩; have B9 : Hid (Below w.heap.size w v9) := zH (B7.out.trans (h1.mono B7.out.size)); have S9 := h1.size; have Kr9 := zH (Kr7.out.below h1 Kr7.out.lt); have Kp9 := zH (Kp7.out.below h1 Kp7.out.lt); clear r0 rz0 r1 rz1 r2 rz2 lr p0 pz0 p1 pz1 p2 pz2 lp h1; obtain ⟨r0, rz0, r1, rz1, r2, rz2, lr⟩ := Kr9.out.f3r; obtain ⟨p0, pz0, p1, pz1, p2, pz2, lp⟩ := Kp9.out.f3r)
  go_upto_region 23 with fail
  generalize hws : World.setCell _ _ _ = w10
  have B10 : Hid (Below w.heap.size w w10) := zH (by rw [← hws]; exact B9.out.setCell (p := ⟨v6.heap.size, 2, none⟩) (by show w.heap.size ≤ v6.heap.size; omega) _)
  have Kr10 : Hid (Blk w10 w.heap.size 30 #[.int .i64 0, .string ⟨#[]⟩, .string ⟨#[]⟩]) := zH (by rw [← hws]; exact Kr9.out.far (p := ⟨v6.heap.size, 2, none⟩) (by show w.heap.size ≠ v6.heap.size; omega) _)
  have Kp10 : Hid (Blk w10 v6.heap.size 30 #[.int .i64 4, .string (txt t), .string ⟨#[]⟩]) := zH (by rw [← hws]; exact (by have := Kp9.out.set_ 2 (.string ⟨#[]⟩); simpa using this))
  have S10 : v9.heap.size ≤ w10.heap.size := by rw [← hws]; simp
  clear r0 rz0 r1 rz1 r2 rz2 lr p0 pz0 p1 pz1 p2 pz2 lp
  clear hws
  obtain ⟨r0, rz0, r1, rz1, r2, rz2, lr⟩ := Kr10.out.f3r
  obtain ⟨p0, pz0, p1, pz1, p2, pz2, lp⟩ := Kp10.out.f3r
  go_wp2_with fail
  generalize hws : World.setCell (World.setCell (World.setCell _ _ _) _ _) _ _ = wz
  have KZ : Blk wz w.heap.size 30 #[.int .i64 4, .string (txt t), .string ⟨#[]⟩] := by rw [← hws]; have := ((Kr10.out.set_ 0 (.int .i64 4)).set_ 1 (.string (txt t))).set_ 2 (.string ⟨#[]⟩); simpa using this
  have BZ : Below w.heap.size w wz := by rw [← hws]; exact ((B10.out.setCell (p := ⟨w.heap.size, 0, none⟩) zL _).setCell (p := ⟨w.heap.size, 1, none⟩) zL _).setCell (p := ⟨w.heap.size, 2, none⟩) zL _
  have z0 := KZ.cell (i := 0) rfl
  have z1 := KZ.cell (i := 1) rfl
  have z2 := KZ.cell (i := 2) rfl
  clear hws r0 rz0 r1 rz1 r2 rz2 lr p0 pz0 p1 pz1 p2 pz2 lp
  refine bodyPost_ret (v := .tuple #[.agg #[.int .i64 4, .string (txt t), .string ⟨#[]⟩], .int .i64 (k : Int), .bool false]) (by simp [results, Tryd.results20, go_sem, z0, z1, z2]) rfl ?_
  exact ⟨_, _, _, rfl, BZ⟩
theorem rins_refm {s : ByteArray} (hs : s.size ≤ 4096) {i : Nat} (hi : i ≤ s.size) (ii : Int) (hii : ii = (i : Int)) (w : World) {t : List Nat} {j : Nat} (hc : (bs s)[i]? = some 45) (he : (bs s)[i + 1]? = some 62) (hn : nameS (bs s) (i + 2) = .inl (t, j)) (hd : (bs s)[j]? = some 46) {m : List Nat} {k : Nat} (hm : nameS (bs s) (j + 1) = .inl (m, k)) : Calls Tryd.prog 20 #[.string s, .int .i64 ii] w fun e w' => e = .returned (.tuple #[.agg #[.int .i64 4, .string (txt t), .string (txt m)], .int .i64 (k : Int), .bool true]) ∧ Below w.heap.size w w' := by
  obtain ⟨n, hn⟩ : ∃ n, s.size = n := ⟨_, rfl⟩
  have Hn := zH hn
  have hn' : (s.size : Int) = (n : Int) := by rw [hn]
  have hle : i ≤ n := by omega
  have hfew : n ≤ 4096 := by omega
  have i0 : (0 : Int) ≤ (i : Int) := Int.natCast_nonneg _
  have i5 : (i : Int) ≤ 4096 := by omega
  subst hii
  clear hn hi
  have hj := name_some (by have := (List.getElem?_eq_some_iff.1 he).1; exact this) hn
  rw [bs_len] at hj
  have hj1 := hj.2.2.1
  have hj2 := hj.2.2.2
  have ht : t ≠ [] := by
    intro h
    have h2 := congrArg List.length hj.1
    rw [h, cut_len (by rw [bs_len]; exact hj2)] at h2
    simp at h2
    omega
  have j0 : (0 : Int) ≤ (j : Int) := Int.natCast_nonneg _
  have j5 : (j : Int) ≤ 4096 := by omega
  have e1 : ((txt t).toList == []) = false := by
    have := mt txt_empty_iff.1 ht
    simpa using this
  have e1' : ((txt t).toList != []) = true := by
    have := mt txt_empty_iff.1 ht
    simpa using this
  clear hj
  have hjm := name_some (by have := (List.getElem?_eq_some_iff.1 hd).1; exact this) hm
  rw [bs_len] at hjm
  have hm2 : m ≠ [] := by
    intro h
    have h2 := congrArg List.length hjm.1
    rw [h, cut_len (by rw [bs_len]; exact hjm.2.2.2)] at h2
    simp at h2
    omega
  have e6 : ((txt m).toList == []) = false := by
    have := mt txt_empty_iff.1 hm2
    simpa using this
  have e6' : ((txt m).toList != []) = true := by
    have := mt txt_empty_iff.1 hm2
    simpa using this
  clear hjm hm2
  go_enter Tryd.func20, Tryd.ntmps20
  go_upto_region 1 with fail
  have B00 := zH (Below.refl w.heap.size w)
  generalize hws : World.alloc _ _ = w1
  have B1 : Hid (Below w.heap.size w w1) := zH (by rw [← hws]; exact B00.out.alloc zL _)
  have Kr1 : Hid (Blk w1 w.heap.size 30 #[.int .i64 0, .string ⟨#[]⟩, .string ⟨#[]⟩]) := zH (by rw [← hws]; exact Blk.new _ _ _)
  have S1 : w.heap.size ≤ w1.heap.size := by rw [← hws]; simp
  clear hws
  obtain ⟨r0, rz0, r1, rz1, r2, rz2, lr⟩ := Kr1.out.f3r
  have N2 : Hid (Calls Tryd.prog 19 #[.string s, .int .i64 (i : Int), .int .u8 46] w1 fun e w' => e = .returned (.bool false) ∧ w' = w1) := zH (is_any s hs (i) 46 _ _ (by go_num) rfl false (by rw [hc]; rfl) w1)
  go_upto_region 4 with (go_at_call 19; (with_reducible refine N2.out.mono ?_); rintro e w' ⟨rfl, h0⟩; have h0 := h0.symm; subst h0)
  have N3 : Hid (Calls Tryd.prog 19 #[.string s, .int .i64 (i : Int), .int .u8 35] w1 fun e w' => e = .returned (.bool false) ∧ w' = w1) := zH (is_any s hs (i) 35 _ _ (by go_num) rfl false (by rw [hc]; rfl) w1)
  go_upto_region 14 with (go_at_call 19; (with_reducible refine N3.out.mono ?_); rintro e w' ⟨rfl, h0⟩; have h0 := h0.symm; subst h0)
  have N4 : Hid (Calls Tryd.prog 19 #[.string s, .int .i64 (i : Int), .int .u8 45] w1 fun e w' => e = .returned (.bool true) ∧ w' = w1) := zH (is_any s hs (i) 45 _ _ (by go_num) rfl true (by rw [hc]; rfl) w1)
  go_upto_region 15 with (go_at_call 19; (with_reducible refine N4.out.mono ?_); rintro e w' ⟨rfl, h0⟩; have h0 := h0.symm; subst h0)
  have N5 : Hid (Calls Tryd.prog 19 #[.string s, .int .i64 ((i : Int) + 1), .int .u8 62] w1 fun e w' => e = .returned (.bool true) ∧ w' = w1) := zH (is_any s hs (i + 1) 62 _ _ (by go_num) rfl true (by rw [he]; rfl) w1)
  go_upto_region 17 with (go_at_call 19; (with_reducible refine N5.out.mono ?_); rintro e w' ⟨rfl, h0⟩; have h0 := h0.symm; subst h0)
  have N6 : Hid (Calls Tryd.prog 31 #[.string s, .int .i64 ((i : Int) + 2)] w1 fun e w' => e = .returned (.tuple #[.string (txt t), .int .i64 (j : Int)]) ∧ Below w1.heap.size w1 w') := zH (rname_ok hs (b := i + 2) (by have := (List.getElem?_eq_some_iff.1 he).1; rw [bs_len] at this; exact this) hn _ (by go_num) _)
  go_upto_region 18 with (go_at_call 31; (with_reducible refine N6.out.mono ?_); rintro e v6 ⟨rfl, h1⟩; have B6 : Hid (Below w.heap.size w v6) := zH (B1.out.trans (h1.mono B1.out.size)); have S6 := h1.size; have Kr6 := zH (Kr1.out.below h1 Kr1.out.lt); clear r0 rz0 r1 rz1 r2 rz2 lr h1; obtain ⟨r0, rz0, r1, rz1, r2, rz2, lr⟩ := Kr6.out.f3r)
  go_upto_region 19 with fail
  have hLp : w.heap.size < v6.heap.size := Kr6.out.lt
  generalize hws : World.alloc _ _ = w7
  have B7 : Hid (Below w.heap.size w w7) := zH (by rw [← hws]; exact B6.out.alloc B6.out.size _)
  have Kr7 : Hid (Blk w7 w.heap.size 30 #[.int .i64 0, .string ⟨#[]⟩, .string ⟨#[]⟩]) := zH (by rw [← hws]; exact Kr6.out.alloc _)
  have Kp7 : Hid (Blk w7 v6.heap.size 30 #[.int .i64 4, .string (txt t), .string ⟨#[]⟩]) := zH (by rw [← hws]; exact Blk.new _ _ _)
  have S7 : v6.heap.size ≤ w7.heap.size := by rw [← hws]; simp
  clear r0 rz0 r1 rz1 r2 rz2 lr
  clear hws
  obtain ⟨r0, rz0, r1, rz1, r2, rz2, lr⟩ := Kr7.out.f3r
  obtain ⟨p0, pz0, p1, pz1, p2, pz2, lp⟩ := Kp7.out.f3r
  have N8 : Hid (Calls Tryd.prog 19 #[.string s, .int .i64 (j : Int), .int .u8 46] w7 fun e w' => e = .returned (.bool true) ∧ w' = w7) := zH (is_any s hs (j) 46 _ _ (by go_num) rfl true (by rw [hd]; rfl) w7)
  go_upto_region 21 with (go_at_call 19; (with_reducible refine N8.out.mono ?_); rintro e w' ⟨rfl, h0⟩; have h0 := h0.symm; subst h0)
  have N9 : Hid (Calls Tryd.prog 31 #[.string s, .int .i64 ((j : Int) + 1)] w7 fun e w' => e = .returned (.tuple #[.string (txt m), .int .i64 (k : Int)]) ∧ Below w7.heap.size w7 w') := zH (rname_ok hs (b := j + 1) (by have := (List.getElem?_eq_some_iff.1 hd).1; rw [bs_len] at this; exact this) hm _ (by go_num) _)
  go_upto_region 22 with (go_at_call 31; (with_reducible refine N9.out.mono ?_); rintro e v9 ⟨rfl, h1⟩; have B9 : Hid (Below w.heap.size w v9) := zH (B7.out.trans (h1.mono B7.out.size)); have S9 := h1.size; have Kr9 := zH (Kr7.out.below h1 Kr7.out.lt); have Kp9 := zH (Kp7.out.below h1 Kp7.out.lt); clear r0 rz0 r1 rz1 r2 rz2 lr p0 pz0 p1 pz1 p2 pz2 lp h1; obtain ⟨r0, rz0, r1, rz1, r2, rz2, lr⟩ := Kr9.out.f3r; obtain ⟨p0, pz0, p1, pz1, p2, pz2, lp⟩ := Kp9.out.f3r)
  go_upto_region 23 with fail
  generalize hws : World.setCell _ _ _ = w10
  have B10 : Hid (Below w.heap.size w w10) := zH (by rw [← hws]; exact B9.out.setCell (p := ⟨v6.heap.size, 2, none⟩) (by show w.heap.size ≤ v6.heap.size; omega) _)
  have Kr10 : Hid (Blk w10 w.heap.size 30 #[.int .i64 0, .string ⟨#[]⟩, .string ⟨#[]⟩]) := zH (by rw [← hws]; exact Kr9.out.far (p := ⟨v6.heap.size, 2, none⟩) (by show w.heap.size ≠ v6.heap.size; omega) _)
  have Kp10 : Hid (Blk w10 v6.heap.size 30 #[.int .i64 4, .string (txt t), .string (txt m)]) := zH (by rw [← hws]; exact (by have := Kp9.out.set_ 2 (.string (txt m)); simpa using this))
  have S10 : v9.heap.size ≤ w10.heap.size := by rw [← hws]; simp
  clear r0 rz0 r1 rz1 r2 rz2 lr p0 pz0 p1 pz1 p2 pz2 lp
  clear hws
  obtain ⟨r0, rz0, r1, rz1, r2, rz2, lr⟩ := Kr10.out.f3r
  obtain ⟨p0, pz0, p1, pz1, p2, pz2, lp⟩ := Kp10.out.f3r
  go_wp2_with fail
  generalize hws : World.setCell (World.setCell (World.setCell _ _ _) _ _) _ _ = wz
  have KZ : Blk wz w.heap.size 30 #[.int .i64 4, .string (txt t), .string (txt m)] := by rw [← hws]; have := ((Kr10.out.set_ 0 (.int .i64 4)).set_ 1 (.string (txt t))).set_ 2 (.string (txt m)); simpa using this
  have BZ : Below w.heap.size w wz := by rw [← hws]; exact ((B10.out.setCell (p := ⟨w.heap.size, 0, none⟩) zL _).setCell (p := ⟨w.heap.size, 1, none⟩) zL _).setCell (p := ⟨w.heap.size, 2, none⟩) zL _
  have z0 := KZ.cell (i := 0) rfl
  have z1 := KZ.cell (i := 1) rfl
  have z2 := KZ.cell (i := 2) rfl
  clear hws r0 rz0 r1 rz1 r2 rz2 lr p0 pz0 p1 pz1 p2 pz2 lp
  refine bodyPost_ret (v := .tuple #[.agg #[.int .i64 4, .string (txt t), .string (txt m)], .int .i64 (k : Int), .bool true]) (by simp [results, Tryd.results20, go_sem, z0, z1, z2]) rfl ?_
  exact ⟨rfl, BZ⟩
theorem rins_none {s : ByteArray} (hs : s.size ≤ 4096) {i : Nat} (hi : i ≤ s.size) (ii : Int) (hii : ii = (i : Int)) (w : World) (h1 : (bs s)[i]? ≠ some 46) (h2 : (bs s)[i]? ≠ some 35) (h3 : (bs s)[i]? ≠ some 45) (hc : (bs s)[i]? ≠ some 61) : Calls Tryd.prog 20 #[.string s, .int .i64 ii] w fun e w' => ∃ (a : Int) (b c : ByteArray), e = .returned (.tuple #[.agg #[.int .i64 a, .string b, .string c], .int .i64 (i : Int), .bool false]) ∧ Below w.heap.size w w' := by
  obtain ⟨n, hn⟩ : ∃ n, s.size = n := ⟨_, rfl⟩
  have Hn := zH hn
  have hn' : (s.size : Int) = (n : Int) := by rw [hn]
  have hle : i ≤ n := by omega
  have hfew : n ≤ 4096 := by omega
  have i0 : (0 : Int) ≤ (i : Int) := Int.natCast_nonneg _
  have i5 : (i : Int) ≤ 4096 := by omega
  subst hii
  clear hn hi
  go_enter Tryd.func20, Tryd.ntmps20
  go_upto_region 1 with fail
  have B00 := zH (Below.refl w.heap.size w)
  generalize hws : World.alloc _ _ = w1
  have B1 : Hid (Below w.heap.size w w1) := zH (by rw [← hws]; exact B00.out.alloc zL _)
  have Kr1 : Hid (Blk w1 w.heap.size 30 #[.int .i64 0, .string ⟨#[]⟩, .string ⟨#[]⟩]) := zH (by rw [← hws]; exact Blk.new _ _ _)
  have S1 : w.heap.size ≤ w1.heap.size := by rw [← hws]; simp
  clear hws
  obtain ⟨r0, rz0, r1, rz1, r2, rz2, lr⟩ := Kr1.out.f3r
  have N2 : Hid (Calls Tryd.prog 19 #[.string s, .int .i64 (i : Int), .int .u8 46] w1 fun e w' => e = .returned (.bool false) ∧ w' = w1) := zH (is_any s hs (i) 46 _ _ (by go_num) rfl false (by simpa using h1) w1)
  go_upto_region 4 with (go_at_call 19; (with_reducible refine N2.out.mono ?_); rintro e w' ⟨rfl, h0⟩; have h0 := h0.symm; subst h0)
  have N3 : Hid (Calls Tryd.prog 19 #[.string s, .int .i64 (i : Int), .int .u8 35] w1 fun e w' => e = .returned (.bool false) ∧ w' = w1) := zH (is_any s hs (i) 35 _ _ (by go_num) rfl false (by simpa using h2) w1)
  go_upto_region 14 with (go_at_call 19; (with_reducible refine N3.out.mono ?_); rintro e w' ⟨rfl, h0⟩; have h0 := h0.symm; subst h0)
  have N4 : Hid (Calls Tryd.prog 19 #[.string s, .int .i64 (i : Int), .int .u8 45] w1 fun e w' => e = .returned (.bool false) ∧ w' = w1) := zH (is_any s hs (i) 45 _ _ (by go_num) rfl false (by simpa using h3) w1)
  go_upto_region 24 with (go_at_call 19; (with_reducible refine N4.out.mono ?_); rintro e w' ⟨rfl, h0⟩; have h0 := h0.symm; subst h0)
  have N5 : Hid (Calls Tryd.prog 19 #[.string s, .int .i64 (i : Int), .int .u8 61] w1 fun e w' => e = .returned (.bool false) ∧ w' = w1) := zH (is_any s hs (i) 61 _ _ (by go_num) rfl false (by simpa using hc) w1)
  go_upto_region 30 with (go_at_call 19; (with_reducible refine N5.out.mono ?_); rintro e w' ⟨rfl, h0⟩; have h0 := h0.symm; subst h0)
  go_wp2_with fail
  generalize hws : World.setCell (World.setCell (World.setCell _ _ _) _ _) _ _ = wz
  have KZ : Blk wz w.heap.size 30 #[.int .i64 0, .string ⟨#[]⟩, .string ⟨#[]⟩] := by rw [← hws]; have := ((Kr1.out.set_ 0 (.int .i64 0)).set_ 1 (.string ⟨#[]⟩)).set_ 2 (.string ⟨#[]⟩); simpa using this
  have BZ : Below w.heap.size w wz := by rw [← hws]; exact ((B1.out.setCell (p := ⟨w.heap.size, 0, none⟩) zL _).setCell (p := ⟨w.heap.size, 1, none⟩) zL _).setCell (p := ⟨w.heap.size, 2, none⟩) zL _
  have z0 := KZ.cell (i := 0) rfl
  have z1 := KZ.cell (i := 1) rfl
  have z2 := KZ.cell (i := 2) rfl
  clear hws r0 rz0 r1 rz1 r2 rz2 lr
  refine bodyPost_ret (v := .tuple #[.agg #[.int .i64 0, .string ⟨#[]⟩, .string ⟨#[]⟩], .int .i64 (i : Int), .bool false]) (by simp [results, Tryd.results20, go_sem, z0, z1, z2]) rfl ?_
  exact ⟨_, _, _, rfl, BZ⟩
theorem rins_expr_no {s : ByteArray} (hs : s.size ≤ 4096) {i : Nat} (hi : i ≤ s.size) (ii : Int) (hii : ii = (i : Int)) (w : World) {E : Nat} (hE : endE (bs s) (i + 1) = E) {es : List EN} {at_ er : Nat} (hP : parseN (cutN (bs s) (i + 1) E) = (es, at_, er)) (h1 : (bs s)[i]? ≠ some 46) (h2 : (bs s)[i]? ≠ some 35) (h3 : (bs s)[i]? ≠ some 45) (hc : (bs s)[i]? = some 61) (he : er ≠ 0) : Calls Tryd.prog 20 #[.string s, .int .i64 ii] w fun e w' => ∃ (a : Int) (b c : ByteArray), e = .returned (.tuple #[.agg #[.int .i64 a, .string b, .string c], .int .i64 ((i : Int) + 1 + (at_ : Int)), .bool false]) ∧ Below w.heap.size w w' := by
  obtain ⟨n, hn⟩ : ∃ n, s.size = n := ⟨_, rfl⟩
  have Hn := zH hn
  have hn' : (s.size : Int) = (n : Int) := by rw [hn]
  have hle : i ≤ n := by omega
  have hfew : n ≤ 4096 := by omega
  have i0 : (0 : Int) ≤ (i : Int) := Int.natCast_nonneg _
  have i5 : (i : Int) ≤ 4096 := by omega
  subst hii
  clear hn hi
  have hE1 := end_in (bs_bytes s) (bs s).length (i + 1) (by have := (List.getElem?_eq_some_iff.1 hc).1; exact this)
  rw [show endTo (bs s) (bs s).length (i + 1) = E from hE, bs_len] at hE1
  have hE2 : E ≤ n := by have := Hn.out; omega
  have hE3 : (i : Int) + 1 ≤ (E : Int) := by omega
  have hE4 : (E : Int) ≤ (n : Int) := by omega
  have PX : Hid (∀ W, Calls Tryd.prog 34 #[.string (s.extract (i + 1) E)] W (ParseIs W (es, at_, er))) := zH (fun W => by
    have := rparse_any (s.extract (i + 1) E) (by rw [← bs_len, bs_extract, List.length_drop, List.length_take]; unfold maxLen; omega) W
    rw [bs_extract] at this
    rw [← hP]
    exact this)
  have hat := parse_in (cut_bytes (bs_bytes s) (i + 1) E) (by rw [cut_len (by rw [bs_len]; omega)]; omega)
  rw [hP, cut_len (by rw [bs_len]; omega)] at hat
  simp only at hat
  have a5 : (at_ : Int) ≤ 4096 := by omega
  have a0 : (0 : Int) ≤ (at_ : Int) := Int.natCast_nonneg _
  clear hP hE1 hat
  have e5 : ((er : Int) != 0) = true := by simp; omega
  go_enter Tryd.func20, Tryd.ntmps20
  go_upto_region 1 with fail
  have B00 := zH (Below.refl w.heap.size w)
  generalize hws : World.alloc _ _ = w1
  have B1 : Hid (Below w.heap.size w w1) := zH (by rw [← hws]; exact B00.out.alloc zL _)
  have Kr1 : Hid (Blk w1 w.heap.size 30 #[.int .i64 0, .string ⟨#[]⟩, .string ⟨#[]⟩]) := zH (by rw [← hws]; exact Blk.new _ _ _)
  have S1 : w.heap.size ≤ w1.heap.size := by rw [← hws]; simp
  clear hws
  obtain ⟨r0, rz0, r1, rz1, r2, rz2, lr⟩ := Kr1.out.f3r
  have N2 : Hid (Calls Tryd.prog 19 #[.string s, .int .i64 (i : Int), .int .u8 46] w1 fun e w' => e = .returned (.bool false) ∧ w' = w1) := zH (is_any s hs (i) 46 _ _ (by go_num) rfl false (by simpa using h1) w1)
  go_upto_region 4 with (go_at_call 19; (with_reducible refine N2.out.mono ?_); rintro e w' ⟨rfl, h0⟩; have h0 := h0.symm; subst h0)
  have N3 : Hid (Calls Tryd.prog 19 #[.string s, .int .i64 (i : Int), .int .u8 35] w1 fun e w' => e = .returned (.bool false) ∧ w' = w1) := zH (is_any s hs (i) 35 _ _ (by go_num) rfl false (by simpa using h2) w1)
  go_upto_region 14 with (go_at_call 19; (with_reducible refine N3.out.mono ?_); rintro e w' ⟨rfl, h0⟩; have h0 := h0.symm; subst h0)
  have N4 : Hid (Calls Tryd.prog 19 #[.string s, .int .i64 (i : Int), .int .u8 45] w1 fun e w' => e = .returned (.bool false) ∧ w' = w1) := zH (is_any s hs (i) 45 _ _ (by go_num) rfl false (by simpa using h3) w1)
  go_upto_region 24 with (go_at_call 19; (with_reducible refine N4.out.mono ?_); rintro e w' ⟨rfl, h0⟩; have h0 := h0.symm; subst h0)
  have N5 : Hid (Calls Tryd.prog 19 #[.string s, .int .i64 (i : Int), .int .u8 61] w1 fun e w' => e = .returned (.bool true) ∧ w' = w1) := zH (is_any s hs (i) 61 _ _ (by go_num) rfl true (by rw [hc]; rfl) w1)
  go_upto_region 25 with (go_at_call 19; (with_reducible refine N5.out.mono ?_); rintro e w' ⟨rfl, h0⟩; have h0 := h0.symm; subst h0)
  have N6 : Hid (Calls Tryd.prog 33 #[.string s, .int .i64 ((i : Int) + 1)] w1 fun e w' => e = .returned (.int .i64 (E : Int)) ∧ Below w1.heap.size w1 w') := zH (by have := rend_any s hs (i + 1) _ (by go_num) (by have := (List.getElem?_eq_some_iff.1 hc).1; rw [bs_len] at this; exact this) w1; rw [hE] at this; exact this)
  go_upto_region 26 with (go_at_call 33; (with_reducible refine N6.out.mono ?_); rintro e v6 ⟨rfl, h1⟩; have B6 : Hid (Below w.heap.size w v6) := zH (B1.out.trans (h1.mono B1.out.size)); have S6 := h1.size; have Kr6 := zH (Kr1.out.below h1 Kr1.out.lt); clear r0 rz0 r1 rz1 r2 rz2 lr h1; obtain ⟨r0, rz0, r1, rz1, r2, rz2, lr⟩ := Kr6.out.f3r)
  have N7 : Hid (Calls Tryd.prog 34 #[.string (s.extract (i + 1) E)] v6 (ParseIs v6 (es, at_, er))) := zH (PX.out _)
  go_upto_region 27 with (go_at_call 34; (with_reducible refine N7.out.mono ?_); rintro e v7 ⟨pv, rfl, hsl, h1⟩; obtain ⟨pa, pn, pc, hpv⟩ := hsl.form'; subst hpv; clear hsl; have B7 : Hid (Below w.heap.size w v7) := zH (B6.out.trans (h1.mono B6.out.size)); have S7 := h1.size; have Kr7 := zH (Kr6.out.below h1 Kr6.out.lt); clear r0 rz0 r1 rz1 r2 rz2 lr h1; obtain ⟨r0, rz0, r1, rz1, r2, rz2, lr⟩ := Kr7.out.f3r)
  have hLx : w.heap.size < v7.heap.size := Kr7.out.lt
  generalize hws : World.alloc _ _ = w8
  have B8 : Hid (Below w.heap.size w w8) := zH (by rw [← hws]; exact B7.out.alloc B7.out.size _)
  have Kr8 : Hid (Blk w8 w.heap.size 30 #[.int .i64 0, .string ⟨#[]⟩, .string ⟨#[]⟩]) := zH (by rw [← hws]; exact Kr7.out.alloc _)
  have Kx8 : Hid (Blk w8 v7.heap.size 69 #[.slice pa pn pc]) := zH (by rw [← hws]; exact Blk.new _ _ _)
  have S8 : v7.heap.size ≤ w8.heap.size := by rw [← hws]; simp
  clear r0 rz0 r1 rz1 r2 rz2 lr
  clear hws
  obtain ⟨r0, rz0, r1, rz1, r2, rz2, lr⟩ := Kr8.out.f3r
  have x0 : (w8).cell? ⟨v7.heap.size, 0, none⟩ = some (.slice pa pn pc) := Kx8.out.cell rfl
  have xz0 : (w8).frozen? ⟨v7.heap.size, 0, none⟩ = false := Kx8.out.frozen 0
  have lx : v7.heap.size < (w8).heap.size := Kx8.out.lt
  go_wp2_with fail
  generalize hws : World.setCell (World.setCell (World.setCell _ _ _) _ _) _ _ = wz
  have KZ : Blk wz w.heap.size 30 #[.int .i64 0, .string ⟨#[]⟩, .string ⟨#[]⟩] := by rw [← hws]; have := ((Kr8.out.set_ 0 (.int .i64 0)).set_ 1 (.string ⟨#[]⟩)).set_ 2 (.string ⟨#[]⟩); simpa using this
  have BZ : Below w.heap.size w wz := by rw [← hws]; exact ((B8.out.setCell (p := ⟨w.heap.size, 0, none⟩) zL _).setCell (p := ⟨w.heap.size, 1, none⟩) zL _).setCell (p := ⟨w.heap.size, 2, none⟩) zL _
  have z0 := KZ.cell (i := 0) rfl
  have z1 := KZ.cell (i := 1) rfl
  have z2 := KZ.cell (i := 2) rfl
  clear hws r0 rz0 r1 rz1 r2 rz2 lr x0 xz0 lx
  refine bodyPost_ret (v := .tuple #[.agg #[.int .i64 0, .string ⟨#[]⟩, .string ⟨#[]⟩], .int .i64 ((i : Int) + 1 + (at_ : Int)), .bool false]) (by simp [results, Tryd.results20, go_sem, z0, z1, z2]) rfl ?_
  exact ⟨_, _, _, rfl, BZ⟩
theorem rins_expr {s : ByteArray} (hs : s.size ≤ 4096) {i : Nat} (hi : i ≤ s.size) (ii : Int) (hii : ii = (i : Int)) (w : World) {E : Nat} (hE : endE (bs s) (i + 1) = E) {es : List EN} {at_ : Nat} (hP : parseN (cutN (bs s) (i + 1) E) = (es, at_, 0)) (h1 : (bs s)[i]? ≠ some 46) (h2 : (bs s)[i]? ≠ some 35) (h3 : (bs s)[i]? ≠ some 45) (hc : (bs s)[i]? = some 61) : Calls Tryd.prog 20 #[.string s, .int .i64 ii] w fun e w' => e = .returned (.tuple #[.agg #[.int .i64 5, .string (s.extract (i + 1) E), .string ⟨#[]⟩], .int .i64 (E : Int), .bool true]) ∧ Below w.heap.size w w' := by
  obtain ⟨n, hn⟩ : ∃ n, s.size = n := ⟨_, rfl⟩
  have Hn := zH hn
  have hn' : (s.size : Int) = (n : Int) := by rw [hn]
  have hle : i ≤ n := by omega
  have hfew : n ≤ 4096 := by omega
  have i0 : (0 : Int) ≤ (i : Int) := Int.natCast_nonneg _
  have i5 : (i : Int) ≤ 4096 := by omega
  subst hii
  clear hn hi
  have hE1 := end_in (bs_bytes s) (bs s).length (i + 1) (by have := (List.getElem?_eq_some_iff.1 hc).1; exact this)
  rw [show endTo (bs s) (bs s).length (i + 1) = E from hE, bs_len] at hE1
  have hE2 : E ≤ n := by have := Hn.out; omega
  have hE3 : (i : Int) + 1 ≤ (E : Int) := by omega
  have hE4 : (E : Int) ≤ (n : Int) := by omega
  have PX : Hid (∀ W, Calls Tryd.prog 34 #[.string (s.extract (i + 1) E)] W (ParseIs W (es, at_, 0))) := zH (fun W => by
    have := rparse_any (s.extract (i + 1) E) (by rw [← bs_len, bs_extract, List.length_drop, List.length_take]; unfold maxLen; omega) W
    rw [bs_extract] at this
    rw [← hP]
    exact this)
  have hat := parse_in (cut_bytes (bs_bytes s) (i + 1) E) (by rw [cut_len (by rw [bs_len]; omega)]; omega)
  rw [hP, cut_len (by rw [bs_len]; omega)] at hat
  simp only at hat
  have a5 : (at_ : Int) ≤ 4096 := by omega
  have a0 : (0 : Int) ≤ (at_ : Int) := Int.natCast_nonneg _
  clear hP hE1 hat
  go_enter Tryd.func20, Tryd.ntmps20
  go_upto_region 1 with fail
  have B00 := zH (Below.refl w.heap.size w)
  generalize hws : World.alloc _ _ = w1
  have B1 : Hid (Below w.heap.size w w1) := zH (by rw [← hws]; exact B00.out.alloc zL _)
  have Kr1 : Hid (Blk w1 w.heap.size 30 #[.int .i64 0, .string ⟨#[]⟩, .string ⟨#[]⟩]) := zH (by rw [← hws]; exact Blk.new _ _ _)
  have S1 : w.heap.size ≤ w1.heap.size := by rw [← hws]; simp
  clear hws
  obtain ⟨r0, rz0, r1, rz1, r2, rz2, lr⟩ := Kr1.out.f3r
  have N2 : Hid (Calls Tryd.prog 19 #[.string s, .int .i64 (i : Int), .int .u8 46] w1 fun e w' => e = .returned (.bool false) ∧ w' = w1) := zH (is_any s hs (i) 46 _ _ (by go_num) rfl false (by simpa using h1) w1)
  go_upto_region 4 with (go_at_call 19; (with_reducible refine N2.out.mono ?_); rintro e w' ⟨rfl, h0⟩; have h0 := h0.symm; subst h0)
  have N3 : Hid (Calls Tryd.prog 19 #[.string s, .int .i64 (i : Int), .int .u8 35] w1 fun e w' => e = .returned (.bool false) ∧ w' = w1) := zH (is_any s hs (i) 35 _ _ (by go_num) rfl false (by simpa using h2) w1)
  go_upto_region 14 with (go_at_call 19; (with_reducible refine N3.out.mono ?_); rintro e w' ⟨rfl, h0⟩; have h0 := h0.symm; subst h0)
  have N4 : Hid (Calls Tryd.prog 19 #[.string s, .int .i64 (i : Int), .int .u8 45] w1 fun e w' => e = .returned (.bool false) ∧ w' = w1) := zH (is_any s hs (i) 45 _ _ (by go_num) rfl false (by simpa using h3) w1)
  go_upto_region 24 with (go_at_call 19; (with_reducible refine N4.out.mono ?_); rintro e w' ⟨rfl, h0⟩; have h0 := h0.symm; subst h0)
  have N5 : Hid (Calls Tryd.prog 19 #[.string s, .int .i64 (i : Int), .int .u8 61] w1 fun e w' => e = .returned (.bool true) ∧ w' = w1) := zH (is_any s hs (i) 61 _ _ (by go_num) rfl true (by rw [hc]; rfl) w1)
  go_upto_region 25 with (go_at_call 19; (with_reducible refine N5.out.mono ?_); rintro e w' ⟨rfl, h0⟩; have h0 := h0.symm; subst h0)
  have N6 : Hid (Calls Tryd.prog 33 #[.string s, .int .i64 ((i : Int) + 1)] w1 fun e w' => e = .returned (.int .i64 (E : Int)) ∧ Below w1.heap.size w1 w') := zH (by have := rend_any s hs (i + 1) _ (by go_num) (by have := (List.getElem?_eq_some_iff.1 hc).1; rw [bs_len] at this; exact this) w1; rw [hE] at this; exact this)
  go_upto_region 26 with (go_at_call 33; (with_reducible refine N6.out.mono ?_); rintro e v6 ⟨rfl, h1⟩; have B6 : Hid (Below w.heap.size w v6) := zH (B1.out.trans (h1.mono B1.out.size)); have S6 := h1.size; have Kr6 := zH (Kr1.out.below h1 Kr1.out.lt); clear r0 rz0 r1 rz1 r2 rz2 lr h1; obtain ⟨r0, rz0, r1, rz1, r2, rz2, lr⟩ := Kr6.out.f3r)
  have N7 : Hid (Calls Tryd.prog 34 #[.string (s.extract (i + 1) E)] v6 (ParseIs v6 (es, at_, 0))) := zH (PX.out _)
  go_upto_region 27 with (go_at_call 34; (with_reducible refine N7.out.mono ?_); rintro e v7 ⟨pv, rfl, hsl, h1⟩; obtain ⟨pa, pn, pc, hpv⟩ := hsl.form'; subst hpv; clear hsl; have B7 : Hid (Below w.heap.size w v7) := zH (B6.out.trans (h1.mono B6.out.size)); have S7 := h1.size; have Kr7 := zH (Kr6.out.below h1 Kr6.out.lt); clear r0 rz0 r1 rz1 r2 rz2 lr h1; obtain ⟨r0, rz0, r1, rz1, r2, rz2, lr⟩ := Kr7.out.f3r)
  have hLx : w.heap.size < v7.heap.size := Kr7.out.lt
  generalize hws : World.alloc _ _ = w8
  have B8 : Hid (Below w.heap.size w w8) := zH (by rw [← hws]; exact B7.out.alloc B7.out.size _)
  have Kr8 : Hid (Blk w8 w.heap.size 30 #[.int .i64 0, .string ⟨#[]⟩, .string ⟨#[]⟩]) := zH (by rw [← hws]; exact Kr7.out.alloc _)
  have Kx8 : Hid (Blk w8 v7.heap.size 69 #[.slice pa pn pc]) := zH (by rw [← hws]; exact Blk.new _ _ _)
  have S8 : v7.heap.size ≤ w8.heap.size := by rw [← hws]; simp
  clear r0 rz0 r1 rz1 r2 rz2 lr
  clear hws
  obtain ⟨r0, rz0, r1, rz1, r2, rz2, lr⟩ := Kr8.out.f3r
  have x0 : (w8).cell? ⟨v7.heap.size, 0, none⟩ = some (.slice pa pn pc) := Kx8.out.cell rfl
  have xz0 : (w8).frozen? ⟨v7.heap.size, 0, none⟩ = false := Kx8.out.frozen 0
  have lx : v7.heap.size < (w8).heap.size := Kx8.out.lt
  go_wp2_with fail
  generalize hws : World.setCell (World.setCell (World.setCell _ _ _) _ _) _ _ = wz
  have KZ : Blk wz w.heap.size 30 #[.int .i64 5, .string (s.extract (i + 1) E), .string ⟨#[]⟩] := by rw [← hws]; have := ((Kr8.out.set_ 0 (.int .i64 5)).set_ 1 (.string (s.extract (i + 1) E))).set_ 2 (.string ⟨#[]⟩); simpa using this
  have BZ : Below w.heap.size w wz := by rw [← hws]; exact ((B8.out.setCell (p := ⟨w.heap.size, 0, none⟩) zL _).setCell (p := ⟨w.heap.size, 1, none⟩) zL _).setCell (p := ⟨w.heap.size, 2, none⟩) zL _
  have z0 := KZ.cell (i := 0) rfl
  have z1 := KZ.cell (i := 1) rfl
  have z2 := KZ.cell (i := 2) rfl
  clear hws r0 rz0 r1 rz1 r2 rz2 lr x0 xz0 lx
  refine bodyPost_ret (v := .tuple #[.agg #[.int .i64 5, .string (s.extract (i + 1) E), .string ⟨#[]⟩], .int .i64 (E : Int), .bool true]) (by simp [results, Tryd.results20, go_sem, z0, z1, z2]) rfl ?_
  exact ⟨rfl, BZ⟩
theorem rins_inr {w w' : World} {e : Ending} {k : Nat} {x : Int} (hx : x = (k : Int)) (h : ∃ (a : Int) (b c : ByteArray), e = .returned (.tuple #[.agg #[.int .i64 a, .string b, .string c], .int .i64 x, .bool false]) ∧ Below w.heap.size w w') : RInsIs w (.inr k) e w' := by
  subst hx
  exact h
theorem rinsert {s : ByteArray} (hs : s.size ≤ 4096) {i : Nat} (hi : i ≤ s.size) {R : (Pc × Nat) ⊕ Nat} (hR : insertS (bs s) i = R) (ii : Int) (hii : ii = (i : Int)) (w : World) : Calls Tryd.prog 20 #[.string s, .int .i64 ii] w (RInsIs w R) := by
  have E0 : txt [] = ⟨#[]⟩ := rfl
  unfold insertS at hR
  by_cases c1 : (bs s)[i]? = some 46
  · rw [if_pos c1] at hR
    cases hn : nameS (bs s) (i + 1) with
    | inr j => rw [hn] at hR; subst hR; exact rins_prop_no hs hi ii hii w c1 hn
    | inl x => obtain ⟨t, j⟩ := x; rw [hn] at hR; subst hR; exact rins_prop hs hi ii hii w c1 hn
  rw [if_neg c1] at hR
  by_cases c2 : (bs s)[i]? = some 35
  · rw [if_pos c2] at hR
    cases hn : nameS (bs s) (i + 1) with
    | inr j => rw [hn] at hR; subst hR; exact rins_kids_no hs hi ii hii w c2 hn
    | inl x =>
      obtain ⟨t, j⟩ := x
      rw [hn] at hR
      simp only [thenS] at hR
      by_cases hd : (bs s)[j]? = some 32
      · rw [if_pos hd] at hR
        have hj := (List.getElem?_eq_some_iff.1 hd).1
        obtain ⟨m, k, e, hu, hm⟩ := unquote_place (bs s) (j + 1) hj
        rw [hm] at hR
        by_cases he : e = 0
        · subst he
          rw [if_neg (by simp)] at hR
          by_cases hm0 : m = []
          · subst hm0
            rw [if_pos rfl] at hR
            simp only at hR
            subst hR
            exact (rins_mark_nil hs hi ii hii w c2 hn hd hu).mono fun e w' h => rins_inr (by omega) h
          · rw [if_neg hm0] at hR
            simp only at hR
            subst hR
            exact rins_mark hs hi ii hii w c2 hn hd hu hm0
        · rw [if_pos he] at hR
          simp only at hR
          subst hR
          exact rins_mark_no hs hi ii hii w c2 hn hd hu he
      · rw [if_neg hd] at hR; subst hR; exact rins_kids hs hi ii hii w c2 hn hd
  rw [if_neg c2] at hR
  by_cases c3 : (bs s)[i]? = some 45
  · rw [if_pos c3] at hR
    by_cases he : (bs s)[i + 1]? = some 62
    · rw [if_pos he] at hR
      cases hn : nameS (bs s) (i + 2) with
      | inr j => rw [hn] at hR; subst hR; exact rins_refn_no hs hi ii hii w c3 he hn
      | inl x =>
        obtain ⟨t, j⟩ := x
        rw [hn] at hR
        simp only [thenS] at hR
        by_cases hd : (bs s)[j]? = some 46
        · rw [if_pos hd] at hR
          cases hm : nameS (bs s) (j + 1) with
          | inr k => rw [hm] at hR; subst hR; exact rins_refm_no hs hi ii hii w c3 he hn hd hm
          | inl y => obtain ⟨m, k⟩ := y; rw [hm] at hR; subst hR; exact rins_refm hs hi ii hii w c3 he hn hd hm
        · rw [if_neg hd] at hR; subst hR; exact rins_ref hs hi ii hii w c3 he hn hd
    · rw [if_neg he] at hR; subst hR; exact (rins_ref_no hs hi ii hii w c3 he).mono fun e w' h => rins_inr (by omega) h
  rw [if_neg c3] at hR
  by_cases c4 : (bs s)[i]? = some 61
  · rw [if_pos c4] at hR
    obtain ⟨E, hE⟩ : ∃ E, endE (bs s) (i + 1) = E := ⟨_, rfl⟩
    obtain ⟨⟨es, at_, er⟩, hP⟩ : ∃ z, parseN (cutN (bs s) (i + 1) E) = z := ⟨_, rfl⟩
    unfold exprS at hR
    rw [hE, hP] at hR
    by_cases he : er = 0
    · subst he
      rw [if_neg (by simp)] at hR
      simp only [thenS] at hR
      subst hR
      refine (rins_expr hs hi ii hii w hE hP c1 c2 c3 c4).mono fun e w' h => ?_
      rw [cut_txt] at h
      exact h
    · rw [if_pos he] at hR
      simp only [thenS] at hR
      subst hR
      exact (rins_expr_no hs hi ii hii w hE hP c1 c2 c3 c4 he).mono fun e w' h => rins_inr (by omega) h
  · rw [if_neg c4] at hR; subst hR; exact rins_none hs hi ii hii w c1 c2 c3 c4
end Go.Proofs.YtpkggobhhieeoaaDoor
