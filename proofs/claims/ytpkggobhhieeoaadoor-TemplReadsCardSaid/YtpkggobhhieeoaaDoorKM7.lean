/- - - - - - -/
import Derived.Test.YtpkggobhhieeoaaDoorKLPrim
import Derived.Test.YtpkggobhhieeoaaDoorKM6
import Derived.Test.YtpkggobhhieeoaaDoorKM4
set_option maxRecDepth 100000
set_option maxHeartbeats 32000000
set_option linter.unusedSimpArgs false
set_option linter.unusedVariables false
namespace Go.Proofs.YtpkggobhhieeoaaDoor
open Go.RowKit
section
variable {q : Nat} {a : Option Addr} {c sz : Nat} {l : List Tok} {i : Nat} {W : World}
theorem pL_row (l : List Tok) (f n i : Nat) (h3 : n ≠ 3) (h7 : n ≠ 7) : pL l (f + 1) n i = rowR l f n i := by
  rw [pL, if_neg h3, if_neg h7]
  rfl
theorem p_or (f : Nat) (HB : ∀ f', f' ≤ f → LevelC q a c sz l 79 (fun i => pL l f' 2 i)) : LevelC q a c sz l 55 (fun i => pL l (f + 1) 1 i) := by
  intro i W h hr
  have hr0 : pL l (f + 1) 1 i = rowR l f 1 i := pL_row l f 1 i (by omega) (by omega)
  simp only at hr ⊢
  rw [hr0] at hr ⊢
  have HX : Hid (Calls Tryd.prog 78 #[.pointer (some ⟨q, 0, none⟩), .int .i64 1, .func (.func 79) #[.pointer (some ⟨q, 0, none⟩)] #[], .bool false] W (Reads q a c sz l W (rowR l f 1 i))) := zH (p_row 1 f 79 false (by decide) (fun _ _ => rfl) HB h hr)
  have hmf : ∀ (fn : Fn) (first cap : Array Value) (w : World), (Instr.makeFunc fn first cap).run Tryd.prog w = .ok (.func fn first cap) w := fun _ _ _ _ => rfl
  obtain ⟨r, hrr⟩ : ∃ r, rowR l f 1 i = r := ⟨_, rfl⟩
  rw [hrr] at hr HX ⊢
  clear hr0 HB h hrr
  cases r with
  | out => exact absurd rfl hr
  | no j =>
    clear hr
    go_enter Tryd.func55, Tryd.ntmps55
    go_wp2_with (first
      | (go_at_call 78; refine HX.out.mono ?_; rintro e w1 ⟨rfl, h1⟩; have M1 := zH h1; clear h1))
    exact ⟨rfl, rfl, M1.out⟩
  | ok t j =>
    clear hr
    go_enter Tryd.func55, Tryd.ntmps55
    go_wp2_with (first
      | (go_at_call 78; refine HX.out.mono ?_; rintro e w1 h1; obtain ⟨g, rfl, h3, h4, h5⟩ := h1.get; have M1 := zH (And.intro h3 (And.intro h4 h5)); clear h1 h3 h4 h5))
    go_ret
    exact Reads.mk_ M1.out.1 M1.out.2.1 M1.out.2.2
theorem p_and (f : Nat) (HB : ∀ f', f' ≤ f → LevelC q a c sz l 94 (fun i => pL l f' 3 i)) : LevelC q a c sz l 79 (fun i => pL l (f + 1) 2 i) := by
  intro i W h hr
  have hr0 : pL l (f + 1) 2 i = rowR l f 2 i := pL_row l f 2 i (by omega) (by omega)
  simp only at hr ⊢
  rw [hr0] at hr ⊢
  have HX : Hid (Calls Tryd.prog 78 #[.pointer (some ⟨q, 0, none⟩), .int .i64 2, .func (.func 94) #[.pointer (some ⟨q, 0, none⟩)] #[], .bool false] W (Reads q a c sz l W (rowR l f 2 i))) := zH (p_row 2 f 94 false (by decide) (fun _ _ => rfl) HB h hr)
  have hmf : ∀ (fn : Fn) (first cap : Array Value) (w : World), (Instr.makeFunc fn first cap).run Tryd.prog w = .ok (.func fn first cap) w := fun _ _ _ _ => rfl
  obtain ⟨r, hrr⟩ : ∃ r, rowR l f 2 i = r := ⟨_, rfl⟩
  rw [hrr] at hr HX ⊢
  clear hr0 HB h hrr
  cases r with
  | out => exact absurd rfl hr
  | no j =>
    clear hr
    go_enter Tryd.func79, Tryd.ntmps79
    go_wp2_with (first
      | (go_at_call 78; refine HX.out.mono ?_; rintro e w1 ⟨rfl, h1⟩; have M1 := zH h1; clear h1))
    exact ⟨rfl, rfl, M1.out⟩
  | ok t j =>
    clear hr
    go_enter Tryd.func79, Tryd.ntmps79
    go_wp2_with (first
      | (go_at_call 78; refine HX.out.mono ?_; rintro e w1 h1; obtain ⟨g, rfl, h3, h4, h5⟩ := h1.get; have M1 := zH (And.intro h3 (And.intro h4 h5)); clear h1 h3 h4 h5))
    go_ret
    exact Reads.mk_ M1.out.1 M1.out.2.1 M1.out.2.2
theorem p_cmp (f : Nat) (HB : ∀ f', f' ≤ f → LevelC q a c sz l 107 (fun i => pL l f' 5 i)) : LevelC q a c sz l 104 (fun i => pL l (f + 1) 4 i) := by
  intro i W h hr
  have hr0 : pL l (f + 1) 4 i = rowR l f 4 i := pL_row l f 4 i (by omega) (by omega)
  simp only at hr ⊢
  rw [hr0] at hr ⊢
  have HX : Hid (Calls Tryd.prog 78 #[.pointer (some ⟨q, 0, none⟩), .int .i64 4, .func (.func 107) #[.pointer (some ⟨q, 0, none⟩)] #[], .bool true] W (Reads q a c sz l W (rowR l f 4 i))) := zH (p_row 4 f 107 true (by decide) (fun _ _ => rfl) HB h hr)
  have hmf : ∀ (fn : Fn) (first cap : Array Value) (w : World), (Instr.makeFunc fn first cap).run Tryd.prog w = .ok (.func fn first cap) w := fun _ _ _ _ => rfl
  obtain ⟨r, hrr⟩ : ∃ r, rowR l f 4 i = r := ⟨_, rfl⟩
  rw [hrr] at hr HX ⊢
  clear hr0 HB h hrr
  cases r with
  | out => exact absurd rfl hr
  | no j =>
    clear hr
    go_enter Tryd.func104, Tryd.ntmps104
    go_wp2_with (first
      | (go_at_call 78; refine HX.out.mono ?_; rintro e w1 ⟨rfl, h1⟩; have M1 := zH h1; clear h1))
    exact ⟨rfl, rfl, M1.out⟩
  | ok t j =>
    clear hr
    go_enter Tryd.func104, Tryd.ntmps104
    go_wp2_with (first
      | (go_at_call 78; refine HX.out.mono ?_; rintro e w1 h1; obtain ⟨g, rfl, h3, h4, h5⟩ := h1.get; have M1 := zH (And.intro h3 (And.intro h4 h5)); clear h1 h3 h4 h5))
    go_ret
    exact Reads.mk_ M1.out.1 M1.out.2.1 M1.out.2.2
theorem p_sum (f : Nat) (HB : ∀ f', f' ≤ f → LevelC q a c sz l 108 (fun i => pL l f' 6 i)) : LevelC q a c sz l 107 (fun i => pL l (f + 1) 5 i) := by
  intro i W h hr
  have hr0 : pL l (f + 1) 5 i = rowR l f 5 i := pL_row l f 5 i (by omega) (by omega)
  simp only at hr ⊢
  rw [hr0] at hr ⊢
  have HX : Hid (Calls Tryd.prog 78 #[.pointer (some ⟨q, 0, none⟩), .int .i64 5, .func (.func 108) #[.pointer (some ⟨q, 0, none⟩)] #[], .bool false] W (Reads q a c sz l W (rowR l f 5 i))) := zH (p_row 5 f 108 false (by decide) (fun _ _ => rfl) HB h hr)
  have hmf : ∀ (fn : Fn) (first cap : Array Value) (w : World), (Instr.makeFunc fn first cap).run Tryd.prog w = .ok (.func fn first cap) w := fun _ _ _ _ => rfl
  obtain ⟨r, hrr⟩ : ∃ r, rowR l f 5 i = r := ⟨_, rfl⟩
  rw [hrr] at hr HX ⊢
  clear hr0 HB h hrr
  cases r with
  | out => exact absurd rfl hr
  | no j =>
    clear hr
    go_enter Tryd.func107, Tryd.ntmps107
    go_wp2_with (first
      | (go_at_call 78; refine HX.out.mono ?_; rintro e w1 ⟨rfl, h1⟩; have M1 := zH h1; clear h1))
    exact ⟨rfl, rfl, M1.out⟩
  | ok t j =>
    clear hr
    go_enter Tryd.func107, Tryd.ntmps107
    go_wp2_with (first
      | (go_at_call 78; refine HX.out.mono ?_; rintro e w1 h1; obtain ⟨g, rfl, h3, h4, h5⟩ := h1.get; have M1 := zH (And.intro h3 (And.intro h4 h5)); clear h1 h3 h4 h5))
    go_ret
    exact Reads.mk_ M1.out.1 M1.out.2.1 M1.out.2.2
theorem p_prod (f : Nat) (HB : ∀ f', f' ≤ f → LevelC q a c sz l 109 (fun i => pL l f' 7 i)) : LevelC q a c sz l 108 (fun i => pL l (f + 1) 6 i) := by
  intro i W h hr
  have hr0 : pL l (f + 1) 6 i = rowR l f 6 i := pL_row l f 6 i (by omega) (by omega)
  simp only at hr ⊢
  rw [hr0] at hr ⊢
  have HX : Hid (Calls Tryd.prog 78 #[.pointer (some ⟨q, 0, none⟩), .int .i64 6, .func (.func 109) #[.pointer (some ⟨q, 0, none⟩)] #[], .bool false] W (Reads q a c sz l W (rowR l f 6 i))) := zH (p_row 6 f 109 false (by decide) (fun _ _ => rfl) HB h hr)
  have hmf : ∀ (fn : Fn) (first cap : Array Value) (w : World), (Instr.makeFunc fn first cap).run Tryd.prog w = .ok (.func fn first cap) w := fun _ _ _ _ => rfl
  obtain ⟨r, hrr⟩ : ∃ r, rowR l f 6 i = r := ⟨_, rfl⟩
  rw [hrr] at hr HX ⊢
  clear hr0 HB h hrr
  cases r with
  | out => exact absurd rfl hr
  | no j =>
    clear hr
    go_enter Tryd.func108, Tryd.ntmps108
    go_wp2_with (first
      | (go_at_call 78; refine HX.out.mono ?_; rintro e w1 ⟨rfl, h1⟩; have M1 := zH h1; clear h1))
    exact ⟨rfl, rfl, M1.out⟩
  | ok t j =>
    clear hr
    go_enter Tryd.func108, Tryd.ntmps108
    go_wp2_with (first
      | (go_at_call 78; refine HX.out.mono ?_; rintro e w1 h1; obtain ⟨g, rfl, h3, h4, h5⟩ := h1.get; have M1 := zH (And.intro h3 (And.intro h4 h5)); clear h1 h3 h4 h5))
    go_ret
    exact Reads.mk_ M1.out.1 M1.out.2.1 M1.out.2.2
theorem p_all (q : Nat) (a : Option Addr) (c sz : Nat) (l : List Tok) : ∀ F f : Nat, f ≤ F → LevelC q a c sz l 55 (fun i => pL l f 1 i) ∧ LevelC q a c sz l 79 (fun i => pL l f 2 i) ∧ LevelC q a c sz l 94 (fun i => pL l f 3 i) ∧ LevelC q a c sz l 104 (fun i => pL l f 4 i) ∧ LevelC q a c sz l 107 (fun i => pL l f 5 i) ∧ LevelC q a c sz l 108 (fun i => pL l f 6 i) ∧ LevelC q a c sz l 109 (fun i => pL l f 7 i) ∧ LevelC q a c sz l 110 (fun i => pP l f i) := by
  have zero : ∀ (fn : FuncId) (n : Nat), LevelC q a c sz l fn (fun i => pL l 0 n i) := fun fn n i W h hr => absurd (by simp only [pL]) hr
  intro F
  induction F with
  | zero =>
    intro f hf
    obtain rfl : f = 0 := by omega
    exact ⟨zero _ _, zero _ _, zero _ _, zero _ _, zero _ _, zero _ _, zero _ _, fun i W h hr => absurd (by simp only [pP]) hr⟩
  | succ F ih =>
    intro f hf
    rcases Nat.lt_or_ge f (F + 1) with h1 | h1
    · exact ih f (by omega)
    · obtain rfl : f = F + 1 := by omega
      have hF := ih F zL
      exact ⟨p_or F (fun f' h => (ih f' h).2.1), p_and F (fun f' h => (ih f' h).2.2.1), p_not F hF.2.2.1 hF.2.2.2.1, p_cmp F (fun f' h => (ih f' h).2.2.2.2.1), p_sum F (fun f' h => (ih f' h).2.2.2.2.2.1), p_prod F (fun f' h => (ih f' h).2.2.2.2.2.2.1), p_post F hF.2.2.2.2.2.2.2, p_prim F hF.1⟩
theorem p_top (h : PSt q a c sz l 0 W) : Calls Tryd.prog 55 #[.pointer (some ⟨q, 0, none⟩)] W (Reads q a c sz l W (pL l (12 * l.length + 10) 1 0)) := by
  refine (p_all q a c sz l (12 * l.length + 10) (12 * l.length + 10) zL).1 0 W h ?_
  intro e
  have := parse_told l
  simp only at e
  rw [e] at this
  exact this
end
end Go.Proofs.YtpkggobhhieeoaaDoor
namespace Go.Proofs.YtpkggobhhieeoaaDoor
open Go.RowKit
theorem info_enode : (Tryd.prog.info? 116).map (fun i => (i.zero, i.size, i.bytes)) = some (some (.agg #[.int .i64 0, .string .empty, .int .i64 0, .slice none 0 0]), 4, 56) := by kernel_rfl
theorem info_int : (Tryd.prog.info? 3).map (fun i => (i.zero, i.size, i.bytes)) = some (some (.int .i64 0), 1, 8) := by kernel_rfl
theorem IsEN.one : ∀ x y, IsEN x y → ∀ u ∈ x, u.oneCell' = true := by
  intro x y h u hu
  obtain ⟨rfl, a, n, c, h2⟩ := h
  rw [h2] at hu
  simp at hu
  rcases hu with rfl | rfl | rfl | rfl <;> rfl
theorem IsNat.one : ∀ x y, IsNat x y → ∀ u ∈ x, u.oneCell' = true := by
  intro x y h u hu
  unfold IsNat at h
  subst h
  simp at hu
  subst hu
  rfl
def FlatIs (B : Nat) (X : World) (t : Tr) (es : List (EN × Value)) (e : Ending) (w' : World) : Prop :=
  ∃ (v' : Value) (es' : List (EN × Value)), e = .returned (.tuple #[v', .int .i64 (t.deep : Int)]) ∧ EL w' B v' (es ++ es') ∧ es'.map (·.1) = t.flat es.length ∧ Below B X w'
theorem p_flat (lo : Nat) (W0 : World) : ∀ (N : Nat) (t : Tr) (g : Nat) (X : World) (v : Value) (es : List (EN × Value)), t.size ≤ N → TreeAt W0 lo t g → Below W0.heap.size W0 X → EL X W0.heap.size v es → es.length + t.size ≤ 5000 →
    Calls Tryd.prog 57 #[.pointer (some ⟨g, 0, none⟩), v] X (FlatIs W0.heap.size X t es) := by
  intro N
  induction N with
  | zero => intro t g X v es h; have := size_pos t; omega
  | succ N ih =>
  intro t g X v es hN ht hX hE hsz
  obtain ⟨kd, s, nm, ks⟩ := t
  simp only [TreeAt, TreeIn] at ht
  obtain ⟨_, kv, gs, hbox, hrow, _, htr⟩ := ht
  have hszk : sizeL ks ≤ N := by simp only [Tr.size] at hN; omega
  simp only [Tr.size] at hsz
  obtain ⟨a, c, rfl⟩ := hE.main.form
  obtain ⟨p, hp⟩ : ∃ p, es.length = p := ⟨_, rfl⟩
  obtain ⟨ka, kc, rfl⟩ := hrow.form
  obtain ⟨m, hm⟩ : ∃ m, gs.length = m := ⟨_, rfl⟩
  have hmk : ks.length = m := by rw [← hm]; exact (TreesIn.len htr).symm
  have b0 : Blk X g 126 _ := hbox.below hX hbox.lt
  have c0 : X.cell? ⟨g, 0, none⟩ = some (.int .i64 (kd : Int)) := b0.cell rfl
  have c1 : X.cell? ⟨g, 1, none⟩ = some (.string (txt s)) := b0.cell rfl
  have c2 : X.cell? ⟨g, 2, none⟩ = some (.int .i64 nm) := b0.cell rfl
  have c3 : X.cell? ⟨g, 3, none⟩ = some (.slice none 0 0) := b0.cell rfl
  have lg : g < W0.heap.size := hbox.lt
  have HBX := zH hbox
  have HIH := zH ih
  have HX := zH hX
  have HEM : Hid (EL X W0.heap.size (.slice a p c) es) := zH (by rw [← hp]; exact hE)
  have HE := zH hE
  have HROW := zH (hrow.read (by omega))
  have HTR := zH htr
  have Hp := zH hp
  have Hm := zH hm
  have Hmk := zH hmk
  rw [hp] at hsz ⊢
  rw [hm] at HROW HBX
  have m63 : m ≤ 9223372036854775807 := by have := HROW.out.caps; unfold maxLen at this; omega
  have p5 : (p : Int) ≤ 5000 := by omega
  obtain ⟨jE, hi, hz, hs2, hby⟩ := info_parts info_enode
  have IE := zH (And.intro hi (And.intro hz (And.intro hs2 hby)))
  clear hi hz hs2 hby
  obtain ⟨jI, hi, hz, hs2, hby⟩ := info_parts info_int
  have II := zH (And.intro hi (And.intro hz (And.intro hs2 hby)))
  clear hi hz hs2 hby ih hX hE hrow htr hp hm hmk hbox b0 hN
  go_enter Tryd.func57, Tryd.ntmps57
  go_wp2_with (first
    | (at_builtin; refine wpList_append_list rfl (.tmp 14) (.tmp 19) _ rfl W0.heap.size (X.heap.size + 1) 116 jE _ 4 56 Tryd.underlying67 IE.out.1 IE.out.2.1 IE.out.2.2.1 IE.out.2.2.2 rfl (by omega) (R := IsEN) (l := es) (m := [(⟨kd, s, nm, []⟩, .slice none 0 0)]) (.slice a p c) ?_ (by exact HEM.out.main.alloc (.cells #[.int .i64 (kd : Int), .string (txt s), .int .i64 nm, .slice none 0 0] 116)) (some ⟨X.heap.size, 0, none⟩) 1 1 ?_ (by exact SlR.new1 (x := [.int .i64 (kd : Int), .string (txt s), .int .i64 nm, .slice none 0 0]) rfl rfl ⟨rfl, _, _, _, rfl⟩) (p + 1) (by rw [Hp.out]) IsEN.one (by rw [Hp.out]; unfold maxLen; omega) (by rw [Hp.out]; omega) (by have := HX.out.size; rw [World.size_alloc]; omega) ?_; rfl; rfl; intro oa oc w2 hown hgr; have O2 := zH (And.intro hown hgr); have B2 : Below W0.heap.size X w2 := ((Below.refl W0.heap.size X).alloc HX.out.size _).grown hgr (by have := HX.out.size; rw [World.size_alloc]; omega) (fun g' hg' => (HEM.out.main.block g' hg').1); have c4 : w2.cell? ⟨g, 4, none⟩ = some (.slice ka m kc) := (HBX.out.below (HX.out.trans B2) lg).cell rfl; have HB2 := zH B2; clear B2 hown hgr))
  have E2 : Hid (EL w2 W0.heap.size (.slice oa (p + 1) oc) (es ++ [(⟨kd, s, nm, []⟩, .slice none 0 0)])) := zH ((HEM.out.alloc (.cells #[.int .i64 (kd : Int), .string (txt s), .int .i64 nm, .slice none 0 0] 116)).push rfl (by have := O2.out.1; exact this) (by have := O2.out.2; exact this))
  clear c0 c1 c2 c3 c4 O2
  go_loopw [1, 7, 9, 10, 11, 26] (fun v d _ _ _ i wr => ∃ (j : Nat) (a' : Option Addr) (n' c' : Nat) (kv : Value) (es2 : List (EN × Value)), j ≤ m ∧ i = .int .i64 (j : Int) ∧ v = .slice a' n' c' ∧ d = .int .i64 (deepL (ks.take j) : Int) ∧ Hid (n' = p + 1 + sizeL (ks.take j)) ∧ Hid (EL wr W0.heap.size (.slice a' n' c') (es ++ (⟨kd, s, nm, placesL (ks.take j) (p + 1)⟩, kv) :: es2)) ∧ Hid (es2.map (·.1) = flatL (ks.take j) (p + 1)) ∧ Hid (Below W0.heap.size X wr)) (fun _ _ _ _ _ i _ => m - (intOf i).toNat)
  case atStart => exact ⟨0, oa, p + 1, oc, .slice none 0 0, [], Nat.zero_le _, rfl, rfl, rfl, zH (by simp [sizeL]), E2, zH (by simp [flatL]), HB2⟩
  case round =>
    obtain ⟨j, a', n', c', kv, es2, hj, rfl, rfl, rfl, hn', hEL, hes2, hB⟩ := hrel
    have HN := hn'
    have HEL := hEL
    have HES := hes2
    have HB := hB
    clear hn' hEL hes2 hB E2 HB2
    by_cases hlt : j < m
    · obtain ⟨gk, hgk⟩ := get_some Hm.out hlt
      obtain ⟨tk, htk⟩ := get_some Hmk.out hlt
      have hLp := get_mid es es2 (⟨kd, s, nm, placesL (ks.take j) (p + 1)⟩, kv) p Hp.out
      obtain ⟨gm, rfl, hgm, hgml, hfz, hat⟩ := HEL.out.main.at00 (by simp; omega) (by omega)
      obtain ⟨x0, hx0, ⟨rfl, ak, nk, ck, hkv⟩, hc0⟩ := hat p _ hLp
      simp only at hkv
      subst hkv
      have u3 : wr.cell? ⟨gm, p * 4 + 3, none⟩ = some (.slice ak nk ck) := hc0 3 _ rfl
      have hnk : nk = (placesL (ks.take j) (p + 1)).length := by
        obtain ⟨a9, c9, h9⟩ := (HEL.out.kids p _ hLp).form
        injection h9
      have hszj := sizeL_take_le ks j
      have hpl : (placesL (ks.take j) (p + 1)).length ≤ 5000 := by rw [placesL_len]; have := len_le_size (ks.take j); omega
      have hn5 : n' ≤ 5000 := by have := HN.out; omega
      have hpn : (p : Int) < (n' : Int) := by have := HN.out; omega
      have hpn2 : p < n' := by have := HN.out; omega
      have p0 : (0 : Int) ≤ (p : Int) := Int.natCast_nonneg _
      obtain ⟨b1, off1, x1, rfl, hb1, hx1, rfl, hc1⟩ := (HROW.out.below (HX.out.trans (HB.out.mono zL))).at_ hgk
      have k0 := hc1 0 _ rfl
      simp only [Nat.add_zero, Nat.mul_one] at k0
      have HLp := zH hLp
      have Hnk := zH hnk
      have Hpl := zH hpl
      have Htk := zH htk
      have Hgk := zH hgk
      have Hfz := zH hfz
      have Hgml := zH hgml
      clear hx0 hc0 hat hx1 hc1 hLp hnk hpl htk hgk hfz hgm
      go_wp2_with (first
        | (at_builtin; refine wpList_append_list2 rfl (.tmp 36) (.tmp 39) _ rfl W0.heap.size (wr.heap.size + 1) 3 jI _ 1 8 Tryd.underlying114 II.out.1 II.out.2.1 II.out.2.2.1 II.out.2.2.2 rfl (by omega) (R := IsNat) (l := placesL (ks.take j) (p + 1)) (m := [n']) (.slice ak nk ck) ?_ (by exact (HEL.out.kids p _ HLp.out).alloc (.cells #[.int .i64 (n' : Int)] 3)) (some ⟨wr.heap.size, 0, none⟩) 1 1 ?_ (by exact SlR.new1 (x := [.int .i64 (n' : Int)]) rfl rfl rfl) (nk + 1) (by rw [Hnk.out]) IsNat.one (by have := Hpl.out; unfold maxLen; omega) (by have := Hpl.out; omega) (by have := HX.out.size; have := HB.out.size; rw [World.size_alloc]; omega) ?_; rfl; rfl; intro ak2 ck2 w3 hown hgr hat3; have O3 := zH (And.intro hown (And.intro hgr hat3)); have m3 := ((HEL.out.alloc (.cells #[.int .i64 (n' : Int)] 3)).main.kept1 ((HEL.out.alloc (.cells #[.int .i64 (n' : Int)] 3)).kids p _ HLp.out) (by decide) hgr); obtain ⟨gm2, e2, _, _, hfz3, hat4⟩ := m3.at00 (by simp; omega) (by omega); injection e2 with e2; injection e2 with e2; subst e2; obtain ⟨x5, hx5, ⟨rfl, _⟩, hc5⟩ := hat4 p _ HLp.out; have u5 : w3.cell? ⟨gm, p * 4 + 3, none⟩ = some (.slice ak nk ck) := hc5 3 _ rfl; have z5 := hfz3 (p * 4 + 3); clear hown hgr hat3 hfz3 hat4 hx5 hc5))
      have E3 := HEL.out.kid HLp.out ⟨_, _, _, rfl⟩ (.cells #[.int .i64 (n' : Int)] 3) O3.out.1 O3.out.2.1 (by have := O3.out.2.2; rw [World.size_alloc] at this; exact this)
      rw [set_mid es es2 _ _ p Hp.out] at E3
      have B3 : Below W0.heap.size X (w3.setCell ⟨gm, p * 4 + 3, none⟩ (.slice ak2 (nk + 1) ck2)) := (((HB.out.alloc (Nat.le_trans HX.out.size HB.out.size) (.cells #[.int .i64 (n' : Int)] 3)).grown O3.out.2.1 (by have := HX.out.size; have := HB.out.size; rw [World.size_alloc]; omega) (fun g' hg' => ((HEL.out.kids p _ HLp.out).block g' hg').1))).setCell (p := ⟨gm, p * 4 + 3, none⟩) ((HEL.out.main.block gm rfl).1) _
      have hes2 : es2.length = sizeL (ks.take j) := by have := congrArg List.length HES.out; rw [List.length_map, trFlatL_len] at this; exact this
      have htk1 := take_snoc1 Htk.out
      have hszt := sizeL_take_le ks (j + 1)
      rw [htk1, sizeL_app] at hszt
      simp only [sizeL] at hszt
      have HE3 := zH E3
      have HB3 := zH B3
      have HT1 := zH htk1
      have Hes2 := zH hes2
      have CC := HIH.out tk gk _ (.slice (some ⟨gm, 0, none⟩) n' c') _ (Nat.le_trans (size_mem (List.mem_iff_getElem?.2 ⟨j, Htk.out⟩)) hszk) (TreesIn.get HTR.out Htk.out Hgk.out) (HX.out.trans B3) E3 (by rw [List.length_append, Hp.out, List.length_cons, hes2]; omega)
      have HCC := zH CC
      clear E3 B3 htk1 hes2 CC
      refine HCC.out.mono ?_
      rintro e w4 ⟨v4, es4, rfl, hE4, hm4, hB4⟩
      obtain ⟨a4, c4, rfl⟩ := hE4.main.form
      have HE4 := zH hE4
      have HM4 := zH hm4
      have HB4 := zH (HB3.out.trans hB4)
      obtain ⟨n4, hn4⟩ : ∃ z, (es ++ (⟨kd, s, nm, placesL (ks.take j) (p + 1) ++ [n']⟩, Value.slice ak2 (nk + 1) ck2) :: es2 ++ es4).length = z := ⟨_, rfl⟩
      rw [hn4]
      have HN4 := zH hn4
      clear hE4 hm4 hB4 HCC hn4 u3 u5 z5 k0
      go_wp2_with fail
      go_roundw
      case rel =>
        have hn1 : n' = p + 1 + sizeL (ks.take j) := HN.out
        have hpl1 : placesL (ks.take (j + 1)) (p + 1) = placesL (ks.take j) (p + 1) ++ [n'] := by rw [HT1.out, placesL_app, hn1]; rfl
        have hlen4 : es4.length = tk.size := by have := congrArg List.length HM4.out; rw [List.length_map, trFlat_len] at this; exact this
        refine ⟨j + 1, a4, n4, c4, .slice ak2 (nk + 1) ck2, es2 ++ es4, by omega, by go_num, rfl, ?_, zH ?_, zH ?_, zH ?_, HB4⟩
        · rw [HT1.out, deepL_app]
          simp only [deepL]
          congr 1
          split <;> omega
        · rw [← HN4.out, HT1.out, sizeL_app]
          simp only [List.length_append, List.length_cons, sizeL, Hp.out, Hes2.out, hlen4]
          omega
        · rw [hpl1]
          have := HE4.out
          rw [HN4.out] at this
          rw [List.append_assoc, List.cons_append] at this
          exact this
        · rw [List.map_append, HES.out, HM4.out, HT1.out, flatL_app]
          simp only [List.length_append, List.length_cons, Hp.out, Hes2.out, flatL, List.append_nil]
          congr 2
          omega
      case measure => simp [intOf]; omega
    · have hjm : j = m := by omega
      subst hjm
      clear hlt
      have hsz2 := hsz
      have hdd : deepL (ks.take j) ≤ 5000 := by have := deepL_le (ks.take j); have := sizeL_take_le ks j; omega
      have hd63 : (deepL (ks.take j) : Int) ≤ 5000 := by omega
      have hd0 : (0 : Int) ≤ (deepL (ks.take j) : Int) := Int.natCast_nonneg _
      have htk : ks.take j = ks := List.take_of_length_le (by rw [Hmk.out]; exact Nat.le_refl _)
      have HTK := zH htk
      clear htk hdd
      go_wp2_with fail
      go_ret2
      refine ⟨.slice a' n' c', (⟨kd, s, nm, placesL (ks.take j) (p + 1)⟩, kv) :: es2, ?_, HEL.out, ?_, HB.out⟩
      · show Ending.returned (.tuple #[.slice a' n' c', .int .i64 ((deepL (ks.take j) : Int) + 1)]) = _
        rw [HTK.out]
        rfl
      · rw [List.map_cons, HES.out, HTK.out, Hp.out]
        rfl
end Go.Proofs.YtpkggobhhieeoaaDoor
namespace Go.Proofs.YtpkggobhhieeoaaDoor
theorem step_good {r : List Nat} {k n : Nat} {s : List Nat} {v : Int} {p : Int} (h : stepP r = (some (k, s, v), n)) : TokG ⟨k, s, v, p⟩ := by
  unfold TokG
  simp only
  unfold stepP at h
  split at h
  · simp at h
  · rename_i c t
    split at h
    · split at h
      · injection h with h1 h2
        injection h1 with h1
        injection h1 with h1 h3
        injection h3 with h3 h4
        left
        exact ⟨by rw [← h1]; rfl, by rw [← h4]; exact Int.natCast_nonneg _⟩
      · simp at h
    · split at h
      · split at h
        · injection h with h1 h2
          injection h1 with h1
          injection h1 with h1 h3
          injection h3 with h3 h4
          by_cases hw : (c :: t).takeWhile furtherN ∈ wordsL
          · rw [if_pos hw] at h1
            exact .inr (.inr (.inr (.inl ⟨by rw [← h1]; rfl, by rw [← h3]; exact hw⟩)))
          · rw [if_neg hw] at h1
            exact .inr (.inr (.inl (by rw [← h1]; rfl)))
        · simp at h
      · split at h
        · simp at h
        · rename_i hm
          injection h with h1 h2
          injection h1 with h1
          injection h1 with h1 h3
          injection h3 with h3 h4
          refine .inr (.inr (.inr (.inr ⟨by rw [← h1]; rfl, ?_⟩)))
          rw [← h3]
          unfold markN at hm ⊢
          cases hf : marksL.find? (fun m => m.isPrefixOf (c :: t)) with
          | none => rw [hf] at hm; exfalso; revert hm; simp only; split <;> simp
          | some m => exact List.mem_of_find?_eq_some hf
theorem scanT_good {l : List Nat} (hl : Bytes l) : ∀ (f i : Nat) (o : List Tok), (∀ t ∈ o, TokG t) → o.length ≤ i → i ≤ l.length → (scanT l f i o).2.2 = 0 → (∀ t ∈ (scanT l f i o).1, TokG t) ∧ (scanT l f i o).1.length ≤ l.length
  | 0, i, o, ho, hi, hil, _ => ⟨by rw [scanT]; exact ho, by rw [scanT]; simp only; omega⟩
  | f + 1, i, o, ho, hi, hil, he => by
    rw [scanT] at he ⊢
    cases hc : l[i]? with
    | none => exact ⟨ho, by simp only; omega⟩
    | some c =>
      rw [hc] at he
      have hlt := (List.getElem?_eq_some_iff.1 hc).1
      simp only at he ⊢
      by_cases h1 : c = 32 ∨ c = 10
      · rw [if_pos h1] at he ⊢
        exact scanT_good hl f (i + 1) o ho (by omega) (by omega) he
      · rw [if_neg h1] at he ⊢
        by_cases h2 : c = 34
        · rw [if_pos h2] at he ⊢
          by_cases h3 : (quoteAt l i).2.2 = 0
          · rw [if_pos h3] at he ⊢
            obtain ⟨a1, a2, a3⟩ := unq_some (l.length + 1) (i + 1) l [] (quoteAt l i).1 (quoteAt l i).2.1 hl (fun x hx => by cases hx) (by show quoteAt l i = _; rw [← h3])
            refine scanT_good hl f _ _ (fun t ht => ?_) (by simp; omega) a3 he
            rcases List.mem_append.1 ht with ht | ht
            · exact ho t ht
            · simp at ht
              subst ht
              exact .inr (.inl rfl)
          · rw [if_neg h3] at he
            simp at he
        · rw [if_neg h2] at he ⊢
          cases hs : (stepP (l.drop i)).1 with
          | none => rw [hs] at he; simp at he
          | some x =>
            obtain ⟨k, s, v⟩ := x
            rw [hs] at he
            simp only at he ⊢
            have hst : stepP (l.drop i) = (some (k, s, v), (stepP (l.drop i)).2) := by rw [← hs]
            obtain ⟨b1, b2, _⟩ := step_some (fun x hx => hl x (List.mem_of_mem_drop hx)) hst
            rw [List.length_drop] at b2
            refine scanT_good hl f _ _ (fun t ht => ?_) (by simp; omega) (by omega) he
            rcases List.mem_append.1 ht with ht | ht
            · exact ho t ht
            · simp at ht
              subst ht
              exact step_good hst
theorem scanT_place {l : List Nat} : ∀ (f i : Nat) (o : List Tok), (∀ t ∈ o, 0 ≤ t.place) → ∀ t ∈ (scanT l f i o).1, 0 ≤ t.place
  | 0, i, o, ho => by rw [scanT]; exact ho
  | f + 1, i, o, ho => by
    have snoc : ∀ (x : Tok), 0 ≤ x.place → ∀ t ∈ o ++ [x], 0 ≤ t.place := fun x hx t ht => by
      rcases List.mem_append.1 ht with ht | ht
      · exact ho t ht
      · simp at ht; subst ht; exact hx
    rw [scanT]
    cases hc : l[i]? with
    | none => exact ho
    | some c =>
      simp only
      by_cases h1 : c = 32 ∨ c = 10
      · rw [if_pos h1]; exact scanT_place f (i + 1) o ho
      · rw [if_neg h1]
        by_cases h2 : c = 34
        · rw [if_pos h2]
          by_cases h3 : (quoteAt l i).2.2 = 0
          · rw [if_pos h3]; exact scanT_place f _ _ (snoc _ (Int.natCast_nonneg _))
          · rw [if_neg h3]; intro t ht; cases ht
        · rw [if_neg h2]
          cases hs : (stepP (l.drop i)).1 with
          | none => intro t ht; cases ht
          | some x =>
            obtain ⟨k, s, v⟩ := x
            exact scanT_place f _ _ (snoc _ (Int.natCast_nonneg _))
theorem scan_place {l : List Nat} : ∀ t ∈ (scanN l).1, 0 ≤ t.place := by
  unfold scanN
  split
  · intro t ht; cases ht
  · exact scanT_place _ _ _ (fun t ht => by cases ht)
theorem scan_good {l : List Nat} (hl : Bytes l) (he : (scanN l).2.2 = 0) : (∀ t ∈ (scanN l).1, TokG t) ∧ (scanN l).1.length ≤ 4096 ∧ l.length ≤ 4096 := by
  unfold scanN at he ⊢
  by_cases h : 4096 < l.length
  · rw [if_pos h] at he; simp at he
  · rw [if_neg h] at he ⊢
    obtain ⟨h1, h2⟩ := scanT_good hl (l.length + 1) 0 [] (by simp) zL (Nat.zero_le _) he
    exact ⟨h1, by omega, by omega⟩
end Go.Proofs.YtpkggobhhieeoaaDoor
namespace Go.Proofs.YtpkggobhhieeoaaDoor
open Go.RowKit
def ENode.Is (w : World) (B : Nat) (x : List Value) (d : EN) : Prop := ∃ kv, x = [.int .i64 (d.kind : Int), .string (txt d.text), .int .i64 d.num, kv] ∧ SlR w B 1 IsNat kv d.kids
theorem EL.read {X : World} {B : Nat} {v : Value} {es : List (EN × Value)} (h : EL X B v es) : SlR X X.heap.size 4 (ENode.Is X X.heap.size) v (es.map (·.1)) := by
  obtain ⟨a, c, rfl, h1, h2, h3⟩ := h.main.read (by omega)
  refine ⟨a, c, by rw [List.length_map], by rw [List.length_map]; exact h1, h2, fun hl => ?_⟩
  rw [List.length_map] at hl
  obtain ⟨b, off, hb, hlt, hat⟩ := h3 hl
  refine ⟨b, off, hb, hlt, fun i y hy => ?_⟩
  rw [List.getElem?_map] at hy
  cases he : es[i]? with
  | none => rw [he] at hy; cases hy
  | some p =>
    rw [he] at hy
    injection hy with hy
    subst hy
    obtain ⟨x, hx, ⟨hR, _⟩, hc⟩ := hat i p he
    exact ⟨x, hx, ⟨p.2, hR, (h.kids i p he).read (by omega)⟩, hc⟩
def ParseIs (w : World) (R : List EN × Nat × Nat) (e : Ending) (w' : World) : Prop :=
  ∃ v, e = .returned (.tuple #[.agg #[v], .int .i64 (R.2.1 : Int), .int .i64 (R.2.2 : Int)]) ∧ SlR w' w'.heap.size 4 (ENode.Is w' w'.heap.size) v R.1 ∧ Below w.heap.size w w'
theorem parse_any (s : ByteArray) (hs : s.size ≤ maxLen) (w : World) (hm : Marks w) (hg : Signs w) : Calls Tryd.prog 39 #[.string s] w (ParseIs w (parseN (bs s))) := by
  have hmf : ∀ (fn : Fn) (first cap : Array Value) (w : World), (Instr.makeFunc fn first cap).run Tryd.prog w = .ok (.func fn first cap) w := fun _ _ _ _ => rfl
  have HS := zH (fun W (hW : Below w.heap.size w W) => scan_any s hs W (hm.below hW))
  have HG := zH hg
  have h1w : 4 < w.heap.size := by
    obtain ⟨t, fr, h⟩ := signs_block hg
    rcases Nat.lt_or_ge 4 w.heap.size with h0 | h0
    · exact h0
    · rw [Array.getElem?_eq_none h0] at h; cases h
  have B0 : Hid (Below w.heap.size w (((w.alloc (.cells #[.slice none 0 0] 69)).alloc (.cells #[.int .i64 0] 3)).alloc (.cells #[.int .i64 0] 23))) := zH (((zB.alloc zL _).alloc (by simp) _).alloc (by simp; omega) _)
  have X0 := zH (Bx.new w)
  obtain ⟨R, hR⟩ : ∃ R, scanN (bs s) = R := ⟨_, rfl⟩
  by_cases he : R.2.2 = 0
  · have hgd := scan_good (bs_bytes s) (by rw [hR]; exact he)
    have hpl := scan_place (l := bs s)
    rw [hR] at hgd hpl HS
    obtain ⟨toks, at_, err⟩ := R
    simp only at he hgd hpl
    subst he
    obtain ⟨hgood, hfew, hs4⟩ := hgd
    obtain ⟨R2, hR2⟩ : ∃ R2, parseN (bs s) = R2 := ⟨_, rfl⟩
    rw [hR2]
    obtain ⟨sz, hsz⟩ : ∃ z, s.size = z := ⟨_, rfl⟩
    have hbl : (bs s).length = sz := by rw [bs_len, hsz]
    have HGD := zH hgood
    have HPL := zH hpl
    have HFW := zH hfew
    have hsz5 : (sz : Int) ≤ 5000 := by rw [hbl] at hs4; omega
    have HSZ := zH hsz
    -- what the grammar says of it
    have hpn : ∀ r, pL toks (12 * toks.length + 10) 1 0 = r → R2 = (match r.bind (fun t i => if i < toks.length then PR.no i else .ok t i) with
        | .ok t _ => if 256 < t.size ∨ 32 < t.deep then ([], 0, 4) else (t.flat 0, 0, 0)
        | .no i => ([], (match toks[i]? with | some x => x.place.toNat | none => sz), 80)
        | .out => ([], 0, 0)) := by
      intro r hr
      rw [← hR2, ← hr]
      unfold parseN parseT
      rw [hR, if_neg (by simp)]
      simp only [hbl]
      rfl
    have HPN := zH hpn
    obtain ⟨r, hrr⟩ : ∃ r, pL toks (12 * toks.length + 10) 1 0 = r := ⟨_, rfl⟩
    have hin := parse_told toks
    rw [hrr] at hin
    have HR2 := zH (hpn r hrr)
    have HT : Hid (∀ (q : Nat) (a : Option Addr) (c : Nat) (X : World), PSt q a c sz toks 0 X → Calls Tryd.prog 55 #[.pointer (some ⟨q, 0, none⟩)] X (Reads q a c sz toks X r)) := zH (fun q a c X h => by rw [← hrr]; exact p_top h)
    clear hm hg hR hgood hpl hfew hs4 hR2 hbl hpn HPN hrr
    -- the state in which the parser begins
    have HP : Hid (∀ (w1 : World) (a : Option Addr) (n c : Nat), Own1 w1 (((w.alloc (.cells #[.slice none 0 0] 69)).alloc (.cells #[.int .i64 0] 3)).alloc (.cells #[.int .i64 0] 23)).heap.size 110 4 Tok.Is (.slice a n c) toks → Below w.heap.size w w1 → Bx w1 w.heap.size (.slice none 0 0) 0 0 →
        ∀ X1, X1 = ((w1.setCell ⟨w.heap.size + 1, 0, none⟩ (.int .i64 (at_ : Int))).setCell ⟨w.heap.size + 1 + 1, 0, none⟩ (.int .i64 0)).alloc (.cells #[.slice a n c, .int .i64 0, .int .i64 (sz : Int)] 102) →
        n = toks.length ∧ PSt w1.heap.size a c sz toks 0 X1 ∧ Bx X1 w.heap.size (.slice none 0 0) at_ 0 ∧ Below w.heap.size w X1 ∧ w.heap.size + 2 < w1.heap.size) := zH (fun w1 a n c hO hB hX X1 hX1 => by
      subst hX1
      obtain ⟨a', c', hform⟩ := hO.form
      injection hform with _ e2 _
      subst e2
      have h2 := hX.set2 (at_ : Int) 0
      have lb := hX.err.lt
      have hO2 : Own1 ((w1.setCell ⟨w.heap.size + 1, 0, none⟩ (.int .i64 (at_ : Int))).setCell ⟨w.heap.size + 1 + 1, 0, none⟩ (.int .i64 0)) (((w.alloc (.cells #[.slice none 0 0] 69)).alloc (.cells #[.int .i64 0] 3)).alloc (.cells #[.int .i64 0] 23)).heap.size 110 4 Tok.Is (.slice a toks.length c) toks := (hO.setFar (by simp) _).setFar (by simp) _
      have hsz2 : ((w1.setCell ⟨w.heap.size + 1, 0, none⟩ (.int .i64 (at_ : Int))).setCell ⟨w.heap.size + 1 + 1, 0, none⟩ (.int .i64 0)).heap.size = w1.heap.size := by rw [World.size_setCell, World.size_setCell]
      have hR := hO2.read (by omega)
      rw [hsz2] at hR
      have ba := (Below.refl w1.heap.size ((w1.setCell ⟨w.heap.size + 1, 0, none⟩ (.int .i64 (at_ : Int))).setCell ⟨w.heap.size + 1 + 1, 0, none⟩ (.int .i64 0))).alloc (Nat.le_of_eq hsz2.symm) (.cells #[.slice a toks.length c, .int .i64 0, .int .i64 (sz : Int)] 102)
      have bw := (hB.trans h2.2).trans (ba.mono hB.size)
      refine ⟨rfl, ⟨hR.below ba, Blk.new_ hsz2.symm _ _, by omega, ?_, Nat.zero_le _, by have := HFW.out; omega, HGD.out⟩, h2.1.below ba lb, bw, lb⟩
      exact HG.out.of_block (bw.block 4 h1w))
    cases r with
    | out => exact absurd hin (by simp [PR.In])
    | no i =>
      have hres : R2 = ([], (match toks[i]? with | some x => x.place.toNat | none => sz), 80) := HR2.out
      obtain ⟨k, hk⟩ : ∃ k : Nat, placeAt toks sz i = (k : Int) ∧ (match toks[i]? with | some x => x.place.toNat | none => sz) = k := by
        unfold placeAt
        cases hx : toks[i]? with
        | none => exact ⟨sz, rfl, rfl⟩
        | some x =>
          have h0 := HPL.out x (List.mem_iff_getElem?.2 ⟨i, hx⟩)
          exact ⟨x.place.toNat, by simp only; omega, rfl⟩
      rw [hk.2] at hres
      subst hres
      have HK := zH hk.1
      clear hk hin HR2
      go_enter_defers Tryd.func39, Tryd.ntmps39
      go_wp2_with (first
        | (go_at_call 53; refine (HS.out _ B0.out).mono ?_; rintro e w1 ⟨a, n, c, rfl, hO, hB⟩; have X1 := zH (X0.out.below hB (by simp)); have B1 : Hid (Below w.heap.size w w1) := zH (B0.out.trans (hB.mono B0.out.size)); have O1 := zH hO; obtain ⟨c0, c1, c2, z0, z1, z2, lb⟩ := X1.out.cells; clear hO hB))
      generalize hwq : World.alloc (World.setCell (World.setCell _ _ _) _ _) _ = W2
      obtain ⟨rfl, hp, hx, hb, lbw⟩ := HP.out w1 a n c O1.out B1.out X1.out W2 (by rw [← hwq])
      clear hwq c0 c1 c2 z0 z1 z2 lb O1 X1 B0 X0
      have P2 := zH hp
      have X2 := zH hx
      have B2 := zH hb
      have LBW := zH lbw
      clear hp hx hb lbw
      refine (HT.out _ _ _ _ P2.out).mono ?_
      rintro e w5 ⟨rfl, h5⟩
      have q2 : w.heap.size + 2 < w1.heap.size := LBW.out
      have X5 := X2.out.below h5.low q2
      have B5 : Below w.heap.size w w5 := B2.out.trans (h5.low.mono (by omega))
      rw [HK.out]
      clear P2 X2 B2 HT HP HS HPL HGD
      refine leaves_cons (f := 54) (args := #[.pointer (some ⟨w.heap.size, 0, none⟩), .pointer (some ⟨w.heap.size + 1, 0, none⟩), .pointer (some ⟨w.heap.size + 1 + 1, 0, none⟩)]) (by simp) (by simp [go_sem]) ?_
      refine (catch_wrong w.heap.size (k : Int) _ _ [] w5 _ ⟨_, _, _, rfl⟩ X5).mono ?_
      rintro e u' wf ⟨rfl, rfl, hBf, hKf⟩
      obtain ⟨c0, c1, c2, z0, z1, z2, lb⟩ := hKf.cells
      have c2' : wf.cell? ⟨w.heap.size + 1 + 1, 0, none⟩ = some (.int .i64 80) := c2
      have HF : Hid (Below w.heap.size w wf) := zH (B5.trans hBf)
      clear c2 hBf hKf X5 B5 z0 z1 z2 lb
      simp [Leaves, settle, results, Tryd.results39, go_sem, c0, c1, c2']
      exact ⟨.slice none 0 0, rfl, SlR.nil_ _ (by unfold maxLen; omega) _, HF.out⟩
    | ok t j =>
      obtain ⟨tl, htl⟩ : ∃ z, toks.length = z := ⟨_, rfl⟩
      have Htl := zH htl
      simp only [PR.In] at hin
      obtain ⟨hin1, hin2, hin3⟩ := hin
      have hfew5 := HFW.out
      rw [htl] at hin2 hfew5
      have j5 : (j : Int) ≤ 5000 := by omega
      have tl63 : tl ≤ 9223372036854775807 := by omega
      clear htl
      by_cases hlt : j < tl
      · obtain ⟨x, hx⟩ := get_some Htl.out hlt
        have hplx := HPL.out x (List.mem_iff_getElem?.2 ⟨j, hx⟩)
        obtain ⟨k, hk⟩ : ∃ k : Nat, x.place = (k : Int) := ⟨x.place.toNat, by omega⟩
        have hres : R2 = ([], k, 80) := by
          have h0 := HR2.out
          simp only [PR.bind] at h0
          rw [if_pos (by rw [Htl.out]; exact hlt)] at h0
          simp only [hx, hk, Int.toNat_natCast] at h0
          exact h0
        subst hres
        have HK : Hid (placeAt toks sz j = (k : Int)) := zH (by unfold placeAt; rw [hx]; exact hk)
        have dlt : decide (j < tl) = true := by simpa using hlt
        clear hx hplx hk hlt HR2
        go_enter_defers Tryd.func39, Tryd.ntmps39
        go_wp2_with (first
          | (go_at_call 53; refine (HS.out _ B0.out).mono ?_; rintro e w1 ⟨a, n, c, rfl, hO, hB⟩; have X1 := zH (X0.out.below hB (by simp)); have B1 : Hid (Below w.heap.size w w1) := zH (B0.out.trans (hB.mono B0.out.size)); have O1 := zH hO; obtain ⟨c0, c1, c2, z0, z1, z2, lb⟩ := X1.out.cells; clear hO hB))
        generalize hwq : World.alloc (World.setCell (World.setCell _ _ _) _ _) _ = W2
        obtain ⟨rfl, hp, hx, hb, lbw⟩ := HP.out w1 a n c O1.out B1.out X1.out W2 (by rw [← hwq])
        clear hwq c0 c1 c2 z0 z1 z2 lb O1 X1 B0 X0
        have P2 := zH hp
        have X2 := zH hx
        have B2 := zH hb
        have LBW := zH lbw
        clear hp hx hb lbw
        refine (HT.out _ _ _ _ P2.out).mono ?_
        rintro e w5 h5
        obtain ⟨g, rfl, hT5, hM5, hP5⟩ := h5.get
        have T5 := zH hT5
        have M5 := zH hM5
        have P5 := zH hP5
        obtain ⟨g0, g1, g2, g3, g4⟩ := hP5.facts
        rw [Htl.out] at g0 ⊢
        have X5 := zH (X2.out.below hM5.low LBW.out)
        have B5 : Hid (Below w.heap.size w w5) := zH (B2.out.trans (hM5.low.mono (by have := LBW.out; omega)))
        clear h5 hT5 hM5 hP5 g2 g3 X2 B2 P2
        go_wp2_with fail
        go_quiet (fail)
        rename_i nq
        have Q6 : Hid (Quiet w5 (w5.drewN nq)) := zH ⟨nq, rfl⟩
        go_wp2_with (first
          | (go_at_call 56; refine (p_give (P5.out.quiet Q6.out)).mono ?_; rintro e w6 ⟨rfl, q6⟩; have Q7 := zH (Q6.out.trans q6); clear q6))
        have lq5 : w.heap.size + 2 < w5.heap.size := by have := LBW.out; have := M5.out.low.size; have := P5.out.box.lt; omega
        have X6 := X5.out.below (Q7.out.below w5.heap.size) lq5
        have B6 : Below w.heap.size w w6 := B5.out.trans (Q7.out.below _)
        rw [HK.out]
        refine leaves_cons (f := 54) (args := #[.pointer (some ⟨w.heap.size, 0, none⟩), .pointer (some ⟨w.heap.size + 1, 0, none⟩), .pointer (some ⟨w.heap.size + 1 + 1, 0, none⟩)]) (by simp) (by simp [go_sem]) ?_
        refine (catch_wrong w.heap.size (k : Int) _ _ [] w6 _ ⟨_, _, _, rfl⟩ X6).mono ?_
        rintro e u' wf ⟨rfl, rfl, hBf, hKf⟩
        obtain ⟨c0, c1, c2, z0, z1, z2, lb⟩ := hKf.cells
        have c2' : wf.cell? ⟨w.heap.size + 1 + 1, 0, none⟩ = some (.int .i64 80) := c2
        have HF : Hid (Below w.heap.size w wf) := zH (B6.trans hBf)
        clear c2 hBf hKf X6 B6 z0 z1 z2 lb g0 g1 g4 HT HP HS HPL HGD
        simp [Leaves, settle, results, Tryd.results39, go_sem, c0, c1, c2']
        exact ⟨.slice none 0 0, rfl, SlR.nil_ _ (by unfold maxLen; omega) _, HF.out⟩
      · have hjt : j = tl := by omega
        subst hjt
        clear hlt
        have hres : R2 = if 256 < t.size ∨ 32 < t.deep then ([], 0, 4) else (t.flat 0, 0, 0) := by
          have h0 := HR2.out
          simp only [PR.bind] at h0
          rw [if_neg (by rw [Htl.out]; omega)] at h0
          exact h0
        have dlt : decide (j < j) = false := by simp
        have HRES := zH hres
        have hsz5 : t.size ≤ 5000 := by omega
        have hdp5 : t.deep ≤ 5000 := by have := deep_le t; omega
        have HTS := zH hsz5
        clear hres HR2
        go_enter_defers Tryd.func39, Tryd.ntmps39
        go_wp2_with (first
          | (go_at_call 53; refine (HS.out _ B0.out).mono ?_; rintro e w1 ⟨a, n, c, rfl, hO, hB⟩; have X1 := zH (X0.out.below hB (by simp)); have B1 : Hid (Below w.heap.size w w1) := zH (B0.out.trans (hB.mono B0.out.size)); have O1 := zH hO; obtain ⟨c0, c1, c2, z0, z1, z2, lb⟩ := X1.out.cells; clear hO hB))
        generalize hwq : World.alloc (World.setCell (World.setCell _ _ _) _ _) _ = W2
        obtain ⟨rfl, hp, hx, hb, lbw⟩ := HP.out w1 a n c O1.out B1.out X1.out W2 (by rw [← hwq])
        clear hwq c0 c1 c2 z0 z1 z2 lb O1 X1 B0 X0
        have P2 := zH hp
        have X2 := zH hx
        have B2 := zH hb
        have LBW := zH lbw
        clear hp hx hb lbw
        refine (HT.out _ _ _ _ P2.out).mono ?_
        rintro e w5 h5
        obtain ⟨g, rfl, hT5, hM5, hP5⟩ := h5.get
        have T5 := zH hT5
        have M5 := zH hM5
        have P5 := zH hP5
        obtain ⟨g0, g1, g2, g3, g4⟩ := hP5.facts
        rw [Htl.out] at g0 ⊢
        have X5 := zH (X2.out.below hM5.low LBW.out)
        have B5 : Hid (Below w.heap.size w w5) := zH (B2.out.trans (hM5.low.mono (by have := LBW.out; omega)))
        clear h5 hT5 hM5 hP5 g2 g3 X2 B2 P2
        go_wp2_with fail
        go_quiet (fail)
        rename_i nq
        have Q6 : Hid (Quiet w5 (w5.drewN nq)) := zH ⟨nq, rfl⟩
        have HFL := zH (p_flat _ w5 t.size t g (w5.drewN nq) (.slice none 0 0) [] zL T5.out (Q6.out.below _) (EL.nil _ _) (by simpa using HTS.out))
        have LQ5 : Hid (w.heap.size + 2 < w5.heap.size) := zH (by have := LBW.out; have := M5.out.low.size; have := P5.out.box.lt; omega)
        obtain ⟨dp, hdp⟩ : ∃ z, t.deep = z := ⟨_, rfl⟩
        obtain ⟨n6, hn6⟩ : ∃ z, t.size = z := ⟨_, rfl⟩
        rw [hdp, hn6] at HRES
        rw [hdp] at hdp5
        rw [hn6] at hsz5
        have HDP := zH hdp
        have HN6 := zH hn6
        clear hdp hn6 g0 g1 g4 HTS
        go_wp2_with (first
          | (go_at_call 57; refine HFL.out.mono ?_; rintro e w6 ⟨v6, es6, rfl, hE6, hm6, hB6⟩; rw [List.nil_append] at hE6; obtain ⟨a6, c6, rfl⟩ := hE6.main.form; have hl6 : es6.length = n6 := by have := congrArg List.length hm6; rw [List.length_map, trFlat_len, HN6.out] at this; exact this
             rw [hl6] at hE6 ⊢; rw [HDP.out]; have E6 := zH hE6; have HM6 : Hid (es6.map (·.1) = t.flat 0) := zH hm6; have hx6 := (X5.out.below (Q6.out.below w5.heap.size) LQ5.out).below hB6 LQ5.out; have X6 := zH hx6; have B6 : Hid (Below w.heap.size w w6) := zH ((B5.out.trans (Q6.out.below _)).trans (hB6.mono (by have := LQ5.out; omega))); obtain ⟨y0, y1, y2', x0, x1, x2', ly2'⟩ := hx6.cells; have y2 : w6.cell? ⟨w.heap.size + 1 + 1, 0, none⟩ = some (.int .i64 0) := y2'; have x2 : w6.frozen? ⟨w.heap.size + 1 + 1, 0, none⟩ = false := x2'; have ly2 : w.heap.size + 1 + 1 < w6.heap.size := ly2'; have ly1 : w.heap.size + 1 < w6.heap.size := by omega
             have ly : w.heap.size < w6.heap.size := by omega
             clear hE6 hm6 hx6 hB6 hl6 y2' x2' ly2'))
        · have hr := HRES.out
          rw [if_pos (by omega)] at hr
          subst hr
          generalize hwq : World.setCell (World.setCell (World.setCell _ _ _) _ _) _ _ = W7
          have hs7 := X6.out.set (.slice none 0 0) 0 4
          have h7 : Bx W7 w.heap.size (.slice none 0 0) 0 4 ∧ Below w.heap.size w6 W7 := by rw [← hwq]; exact hs7
          have E7 : EL W7 w5.heap.size (.slice a6 n6 c6) es6 := by
            rw [← hwq]
            have far : ∀ (p : Addr) (u : Value) (Y : World), p.block < w5.heap.size → EL Y w5.heap.size (.slice a6 n6 c6) es6 → EL (Y.setCell p u) w5.heap.size (.slice a6 n6 c6) es6 := fun p u Y hp h => ⟨h.main.setFar hp u, fun i x hx => (h.kids i x hx).setFar hp u, h.apart⟩
            exact far _ _ _ (by show w.heap.size + 2 < _; exact LQ5.out) (far _ _ _ (by show w.heap.size + 1 < _; have := LQ5.out; omega) (far _ _ _ (by show w.heap.size < _; have := LQ5.out; omega) E6.out))
          have B7 : Hid (Below w.heap.size w W7) := zH (B6.out.trans h7.2)
          have hrd := E7.read
          rw [HM6.out] at hrd
          obtain ⟨c0, c1, c2, z0, z1, z2, lb⟩ := h7.1.cells
          have c2' : W7.cell? ⟨w.heap.size + 1 + 1, 0, none⟩ = some (.int .i64 4) := c2
          clear hwq hs7 c2 z0 z1 z2 lb h7 y0 y1 y2 x0 x1 x2 ly ly1 ly2
          refine leaves_cons (f := 54) (args := #[.pointer (some ⟨w.heap.size, 0, none⟩), .pointer (some ⟨w.heap.size + 1, 0, none⟩), .pointer (some ⟨w.heap.size + 1 + 1, 0, none⟩)]) (by simp) (by simp [go_sem]) ?_
          refine (catch_idle _ _ _ _).mono ?_
          rintro e u' wf ⟨rfl, rfl, rfl⟩
          simp [Leaves, settle, results, Tryd.results39, go_sem, c0, c1, c2']
          exact ⟨(.slice none 0 0), rfl, SlR.nil_ _ (by unfold maxLen; omega) _, B7.out⟩
        · have hr := HRES.out
          rw [if_neg (by omega)] at hr
          subst hr
          generalize hwq : World.setCell (World.setCell (World.setCell _ _ _) _ _) _ _ = W7
          have hs7 := X6.out.set (.slice a6 n6 c6) 0 0
          have h7 : Bx W7 w.heap.size (.slice a6 n6 c6) 0 0 ∧ Below w.heap.size w6 W7 := by rw [← hwq]; exact hs7
          have E7 : EL W7 w5.heap.size (.slice a6 n6 c6) es6 := by
            rw [← hwq]
            have far : ∀ (p : Addr) (u : Value) (Y : World), p.block < w5.heap.size → EL Y w5.heap.size (.slice a6 n6 c6) es6 → EL (Y.setCell p u) w5.heap.size (.slice a6 n6 c6) es6 := fun p u Y hp h => ⟨h.main.setFar hp u, fun i x hx => (h.kids i x hx).setFar hp u, h.apart⟩
            exact far _ _ _ (by show w.heap.size + 2 < _; exact LQ5.out) (far _ _ _ (by show w.heap.size + 1 < _; have := LQ5.out; omega) (far _ _ _ (by show w.heap.size < _; have := LQ5.out; omega) E6.out))
          have B7 : Hid (Below w.heap.size w W7) := zH (B6.out.trans h7.2)
          have hrd := E7.read
          rw [HM6.out] at hrd
          obtain ⟨c0, c1, c2, z0, z1, z2, lb⟩ := h7.1.cells
          have c2' : W7.cell? ⟨w.heap.size + 1 + 1, 0, none⟩ = some (.int .i64 0) := c2
          clear hwq hs7 c2 z0 z1 z2 lb h7 y0 y1 y2 x0 x1 x2 ly ly1 ly2
          refine leaves_cons (f := 54) (args := #[.pointer (some ⟨w.heap.size, 0, none⟩), .pointer (some ⟨w.heap.size + 1, 0, none⟩), .pointer (some ⟨w.heap.size + 1 + 1, 0, none⟩)]) (by simp) (by simp [go_sem]) ?_
          refine (catch_idle _ _ _ _).mono ?_
          rintro e u' wf ⟨rfl, rfl, rfl⟩
          simp [Leaves, settle, results, Tryd.results39, go_sem, c0, c1, c2']
          exact ⟨(.slice a6 n6 c6), rfl, hrd, B7.out⟩
        · have hr := HRES.out
          rw [if_pos (by omega)] at hr
          subst hr
          generalize hwq : World.setCell (World.setCell (World.setCell _ _ _) _ _) _ _ = W7
          have hs7 := X6.out.set (.slice none 0 0) 0 4
          have h7 : Bx W7 w.heap.size (.slice none 0 0) 0 4 ∧ Below w.heap.size w6 W7 := by rw [← hwq]; exact hs7
          have E7 : EL W7 w5.heap.size (.slice a6 n6 c6) es6 := by
            rw [← hwq]
            have far : ∀ (p : Addr) (u : Value) (Y : World), p.block < w5.heap.size → EL Y w5.heap.size (.slice a6 n6 c6) es6 → EL (Y.setCell p u) w5.heap.size (.slice a6 n6 c6) es6 := fun p u Y hp h => ⟨h.main.setFar hp u, fun i x hx => (h.kids i x hx).setFar hp u, h.apart⟩
            exact far _ _ _ (by show w.heap.size + 2 < _; exact LQ5.out) (far _ _ _ (by show w.heap.size + 1 < _; have := LQ5.out; omega) (far _ _ _ (by show w.heap.size < _; have := LQ5.out; omega) E6.out))
          have B7 : Hid (Below w.heap.size w W7) := zH (B6.out.trans h7.2)
          have hrd := E7.read
          rw [HM6.out] at hrd
          obtain ⟨c0, c1, c2, z0, z1, z2, lb⟩ := h7.1.cells
          have c2' : W7.cell? ⟨w.heap.size + 1 + 1, 0, none⟩ = some (.int .i64 4) := c2
          clear hwq hs7 c2 z0 z1 z2 lb h7 y0 y1 y2 x0 x1 x2 ly ly1 ly2
          refine leaves_cons (f := 54) (args := #[.pointer (some ⟨w.heap.size, 0, none⟩), .pointer (some ⟨w.heap.size + 1, 0, none⟩), .pointer (some ⟨w.heap.size + 1 + 1, 0, none⟩)]) (by simp) (by simp [go_sem]) ?_
          refine (catch_idle _ _ _ _).mono ?_
          rintro e u' wf ⟨rfl, rfl, rfl⟩
          simp [Leaves, settle, results, Tryd.results39, go_sem, c0, c1, c2']
          exact ⟨(.slice none 0 0), rfl, SlR.nil_ _ (by unfold maxLen; omega) _, B7.out⟩
  · have hp : parseN (bs s) = ([], R.2.1, R.2.2) := by unfold parseN; rw [hR, if_pos he]
    rw [hp]
    clear hp hm hg
    rw [hR] at HS
    obtain ⟨toks, at_, err⟩ := R
    simp only at he ⊢
    have e1 : ((err : Int) != 0) = true := by simp; omega
    have e2 : ¬ (err : Int) = 0 := by omega
    clear he hR
    go_enter_defers Tryd.func39, Tryd.ntmps39
    go_wp2_with (first
      | (go_at_call 53; refine (HS.out _ B0.out).mono ?_; rintro e w1 ⟨a, n, c, rfl, hO, hB⟩; have X1 := zH (X0.out.below hB (by simp)); have B1 : Hid (Below w.heap.size w w1) := zH (B0.out.trans (hB.mono B0.out.size)); obtain ⟨c0, c1, c2, z0, z1, z2, lb⟩ := X1.out.cells; clear hO hB))
    generalize hwq : World.setCell (World.setCell _ _ _) _ _ = W2
    have hX2 := X1.out.set2 (at_ : Int) (err : Int)
    have h2 : Bx W2 w.heap.size (.slice none 0 0) at_ err ∧ Below w.heap.size w1 W2 := by rw [← hwq]; exact hX2
    clear hwq hX2 c0 c1 c2 z0 z1 z2 lb X0 B0
    have X2 := zH h2.1
    have B2 : Hid (Below w.heap.size w W2) := zH (B1.out.trans h2.2)
    obtain ⟨c0, c1, c2, z0, z1, z2, lb⟩ := h2.1.cells
    clear h2 X1 B1
    have c2' : W2.cell? ⟨w.heap.size + 1 + 1, 0, none⟩ = some (.int .i64 (err : Int)) := c2
    have z2' : W2.frozen? ⟨w.heap.size + 1 + 1, 0, none⟩ = false := z2
    have lb' : w.heap.size + 1 + 1 < W2.heap.size := lb
    have lb1 : w.heap.size + 1 < W2.heap.size := by omega
    have lb0 : w.heap.size < W2.heap.size := by omega
    clear c2 z2 lb
    go_region
    generalize hwq : World.drew _ = W3
    have hX3 := X2.out.set (.slice none 0 0) (at_ : Int) (err : Int)
    have h3 : Bx W3 w.heap.size (.slice none 0 0) at_ err ∧ Below w.heap.size W2 W3 := by rw [← hwq]; exact ⟨hX3.1.below (zB.drew) hX3.1.err.lt, hX3.2.drew⟩
    clear hwq hX3 c0 c1 c2' z0 z1 z2' lb' lb1 lb0 X2
    obtain ⟨c0, c1, c2, z0, z1, z2, lb⟩ := h3.1.cells
    have c2' : W3.cell? ⟨w.heap.size + 1 + 1, 0, none⟩ = some (.int .i64 (err : Int)) := c2
    have B3 : Hid (Below w.heap.size w W3) := zH (B2.out.trans h3.2)
    clear h3 c2 z0 z1 z2 lb
    go_wp2_with fail
    simp [bodyPostD, Leaves, settle, results, Tryd.results39, go_sem, c0, c1, c2']
    exact ⟨.slice none 0 0, rfl, SlR.nil_ _ (by unfold maxLen; omega) _, B3.out⟩
end Go.Proofs.YtpkggobhhieeoaaDoor
namespace Go.Proofs.YtpkggobhhieeoaaDoor
open Go.RowKit
structure RSt (q : Nat) (a : Option Addr) (c sz : Nat) (l : List Tok) (i : Nat) (bad : Int) (es : List (EN × Value)) (X : World) : Prop where
  toks : SlR X q 4 Tok.Is (.slice a l.length c) l
  box : ∃ mv, Blk X q 86 #[.slice a l.length c, .int .i64 (i : Int), .int .i64 (sz : Int), .int .i64 bad, mv] ∧ EL X (q + 1) mv es
  le : i ≤ l.length
  few : l.length ≤ 4097
  szf : sz ≤ 5000
  good : ∀ t ∈ l, TokG t
  place : ∀ t ∈ l, 0 ≤ t.place
section
variable {q : Nat} {a : Option Addr} {c sz : Nat} {l : List Tok} {i : Nat} {bad : Int} {es : List (EN × Value)} {X : World}
theorem EL.setFar {Y : World} {B : Nat} {v : Value} (h : EL Y B v es) {p : Addr} (hp : p.block < B) (u : Value) : EL (Y.setCell p u) B v es := ⟨h.main.setFar hp u, fun j x hx => (h.kids j x hx).setFar hp u, h.apart⟩
theorem EL.keep {Y Y' : World} {B C : Nat} {v : Value} (h : EL Y B v es) (hb : Below C Y Y') (hC : Y.heap.size ≤ C) : EL Y' B v es := ⟨h.main.below hb hC, fun j x hx => (h.kids j x hx).below hb hC, h.apart⟩
theorem RSt.lt (h : RSt q a c sz l i bad es X) : q < X.heap.size := by obtain ⟨mv, h1, _⟩ := h.box; exact h1.lt
theorem RSt.quiet {X' : World} (h : RSt q a c sz l i bad es X) (hq : Quiet X X') : RSt q a c sz l i bad es X' := by
  obtain ⟨n, rfl⟩ := hq
  obtain ⟨mv, h1, h2⟩ := h.box
  exact ⟨h.toks, ⟨mv, h1, h2.drewN n⟩, h.le, h.few, h.szf, h.good, h.place⟩
theorem RSt.keep {X' : World} (h : RSt q a c sz l i bad es X) (hb : Below X.heap.size X X') : RSt q a c sz l i bad es X' := by
  obtain ⟨mv, h1, h2⟩ := h.box
  exact ⟨h.toks.below (hb.mono (Nat.le_of_lt h1.lt)), ⟨mv, h1.below hb h1.lt, h2.keep hb zL⟩, h.le, h.few, h.szf, h.good, h.place⟩
theorem RSt.at_ (h : RSt q a c sz l i bad es X) {j : Nat} {u : Value} (hu : u = .int .i64 (j : Int)) (hj : j ≤ l.length) : RSt q a c sz l j bad es (X.setCell ⟨q, 1, none⟩ u) := by
  subst hu
  obtain ⟨mv, h1, h2⟩ := h.box
  exact ⟨h.toks.below ((Below.refl q X).setCell (p := ⟨q, 1, none⟩) (Nat.le_refl q) _), ⟨mv, by have := h1.set_ 1 (.int .i64 (j : Int)); simpa using this, h2.setFar (Nat.lt_succ_self q) _⟩, hj, h.few, h.szf, h.good, h.place⟩
theorem RSt.bad_ (h : RSt q a c sz l i bad es X) (b : Int) : RSt q a c sz l i b es (X.setCell ⟨q, 3, none⟩ (.int .i64 b)) := by
  obtain ⟨mv, h1, h2⟩ := h.box
  exact ⟨h.toks.below ((Below.refl q X).setCell (p := ⟨q, 3, none⟩) (Nat.le_refl q) _), ⟨mv, by have := h1.set_ 3 (.int .i64 b); simpa using this, h2.setFar (Nat.lt_succ_self q) _⟩, h.le, h.few, h.szf, h.good, h.place⟩
theorem RSt.facts (h : RSt q a c sz l i bad es X) : X.cell? ⟨q, 0, none⟩ = some (.slice a l.length c) ∧ X.cell? ⟨q, 1, none⟩ = some (.int .i64 (i : Int)) ∧ X.cell? ⟨q, 2, none⟩ = some (.int .i64 (sz : Int)) ∧ X.cell? ⟨q, 3, none⟩ = some (.int .i64 bad) ∧ X.frozen? ⟨q, 1, none⟩ = false ∧ X.frozen? ⟨q, 3, none⟩ = false ∧ q < X.heap.size := by
  obtain ⟨mv, h1, _⟩ := h.box
  exact ⟨h1.cell rfl, h1.cell rfl, h1.cell rfl, h1.cell rfl, h1.frozen 1, h1.frozen 3, h1.lt⟩
theorem RSt.tok (h : RSt q a c sz l i bad es X) {k : Nat} {t : Tok} (ht : l[k]? = some t) : ∃ b off, a = some ⟨b, off, none⟩ ∧ X.cell? ⟨b, off + k * 4, none⟩ = some (.int .i64 t.kind) ∧ X.cell? ⟨b, off + k * 4 + 1, none⟩ = some (.string (txt t.text)) ∧ X.cell? ⟨b, off + k * 4 + 2, none⟩ = some (.int .i64 t.num) ∧ X.cell? ⟨b, off + k * 4 + 3, none⟩ = some (.int .i64 t.place) ∧ t.ok := by
  obtain ⟨b, off, x, ha, _, hx, ⟨rfl, hok⟩, hc⟩ := h.toks.at_ ht
  refine ⟨b, off, ha, ?_, hc 1 _ rfl, hc 2 _ rfl, hc 3 _ rfl, hok⟩
  have := hc 0 _ rfl
  rwa [Nat.add_zero] at this
theorem RSt.placeAt_nn (h : RSt q a c sz l i bad es X) (k : Nat) : 0 ≤ placeAt l sz k := by
  unfold placeAt
  cases hx : l[k]? with
  | none => exact Int.natCast_nonneg _
  | some t => exact h.place t (List.mem_iff_getElem?.2 ⟨k, hx⟩)
theorem r_is_bad (s : List Nat) (hbad : 0 ≤ bad) (h : RSt q a c sz l i bad es X) : Calls Tryd.prog 63 #[.pointer (some ⟨q, 0, none⟩), .string (txt s)] X fun e w' => e = .returned (.bool false) ∧ Quiet X w' := by
  obtain ⟨f0, f1, f2, f3, f4, f5, f6⟩ := h.facts
  have d0 : decide (bad < 0) = false := by simp; omega
  clear h f4 f5
  go_enter Tryd.func63, Tryd.ntmps63
  go_wp2_with fail
  go_quiet (fail)
  go_wp2_with fail
  go_ret
  exact ⟨rfl, _, rfl⟩
theorem r_is (s : List Nat) (hs : Bytes s) (b : Bool) (hb : isT l i s = b) (h : RSt q a c sz l i (-1) es X) : Calls Tryd.prog 63 #[.pointer (some ⟨q, 0, none⟩), .string (txt s)] X fun e w' => e = .returned (.bool b) ∧ Quiet X w' := by
  obtain ⟨f0, f1, f2, f3, f4, f5, f6⟩ := h.facts
  obtain ⟨n, hn⟩ : ∃ n, l.length = n := ⟨_, rfl⟩
  have hle := h.le
  have hfew := h.few
  rw [hn] at f0 hle hfew
  have n63 : n ≤ 9223372036854775807 := by omega
  have i0 : (0 : Int) ≤ (i : Int) := Int.natCast_nonneg _
  by_cases hlt : i < n
  · obtain ⟨t, ht⟩ := get_some hn hlt
    obtain ⟨b0, off, rfl, t0, t1, _, _, hok⟩ := h.tok ht
    have hB : b = (decide (4 ≤ t.kind) && decide (t.text = s)) := by rw [← hb]; unfold isT; rw [ht]
    obtain ⟨kd, hkd⟩ : ∃ k, t.kind = k := ⟨_, rfl⟩
    obtain ⟨tt, htt⟩ : ∃ k, t.text = k := ⟨_, rfl⟩
    have htb := hok.1
    rw [hkd] at t0 hB
    rw [htt] at t1 hB htb
    have HB := zH hB
    have dlt : decide (i < n) = true := by simpa using hlt
    have dlt2 : (i : Int) < (n : Int) := by omega
    clear h hb hn ht hkd htt hok hB f4 f5
    by_cases h4 : 4 ≤ kd
    · have d4 : decide (4 ≤ kd) = true := by simpa using h4
      rw [d4, Bool.true_and] at HB
      by_cases hts : tt = s
      · subst hts
        rw [decide_eq_true rfl] at HB
        go_enter Tryd.func63, Tryd.ntmps63
        go_wp2_with fail
        go_quiet (fail)
        go_wp2_with fail
        go_ret
        exact ⟨by have hb := HB.out; subst hb; simp, _, rfl⟩
      · have hne : ¬ (txt tt).toList = (txt s).toList := fun e => hts (txt_inj htb hs e)
        rw [decide_eq_false hts] at HB
        clear hts
        go_enter Tryd.func63, Tryd.ntmps63
        go_wp2_with fail
        go_quiet (fail)
        go_wp2_with fail
        go_ret
        exact ⟨by have hb := HB.out; subst hb; first | rfl | simp [hne], _, rfl⟩
    · have d4 : decide (4 ≤ kd) = false := by simpa using h4
      rw [d4, Bool.false_and] at HB
      go_enter Tryd.func63, Tryd.ntmps63
      go_wp2_with fail
      go_quiet (fail)
      go_wp2_with fail
      go_ret
      exact ⟨by have hb := HB.out; subst hb; first | rfl | simp, _, rfl⟩
  · have hB : b = false := by rw [← hb]; unfold isT; rw [List.getElem?_eq_none (by omega)]
    obtain rfl : i = n := by omega
    have dlt : decide (i < i) = false := by simp
    have HB := zH hB
    clear h hb hn hB hlt f4 f5
    go_enter Tryd.func63, Tryd.ntmps63
    go_wp2_with fail
    go_quiet (fail)
    go_wp2_with fail
    go_ret
    exact ⟨by have hb := HB.out; subst hb; rfl, _, rfl⟩
end
end Go.Proofs.YtpkggobhhieeoaaDoor
