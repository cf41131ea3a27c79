/- - - - - - -/
import Derived.Test.YtpkggobhhieeoaaDoorKM8
import Derived.Test.YtpkggobhhieeoaaDoorKM4
import Derived.Test.YtpkggobhhieeoaaDoorKM5
set_option maxRecDepth 100000
set_option maxHeartbeats 32000000
set_option linter.unusedSimpArgs false
set_option linter.unusedVariables false
namespace Go.Proofs.YtpkggobhhieeoaaDoor
open Go.RowKit Go.ChangeShapes Go.WideShapes Go.Deep
def Fit (n bytes : Nat) : Prop := n * bytes ≤ 140737488355328
def Light {H : Type} (P : Program) (t : TypeId) (d : DataW H) : Prop := ∀ n ∈ d.weights P t, n ≤ reachBytes
section
variable {H : Type} {enc : TypeId × Value → H} {P : Program} {w : World} {base : Nat} {spare : Nat → Bool} {held : Bool}
theorem weightsAll_mem {e : TypeId} : ∀ {l : List (DataW H)} {d : DataW H}, d ∈ l → ∀ n ∈ d.weights P e, n ∈ DataW.weightsAll P e l
  | d0 :: l, d, h, n, hn => by
    simp only [DataW.weightsAll, List.mem_append]
    rcases List.mem_cons.1 h with rfl | h
    · exact Or.inl hn
    · exact Or.inr (weightsAll_mem h n hn)
theorem open_SlR_light {α : Type} {t e : TypeId} {fuel size bytes : Nat} {v : Value} {d : DataW H × List MemPlace} (R : List Value → α → Prop) (ht : P.underlying t = some (.slice e)) (hC : P.cellsOf e = size) (hs : 0 < size) (hby : P.bytesOf e = bytes)
    (h : DataW.trod enc P w base spare held fuel t [v] = some d) (hl : Light P t d.1)
    (hR : ∀ (n : Nat) (x : List Value) (y : DataW H × List MemPlace), x.length = size → DataW.trod enc P w base spare held n e x = some y → Light P e y.1 → ∃ z : α, R x z) :
    ∃ l : List α, SlR w w.heap.size size R v l ∧ Fit l.length bytes := by
  rcases open_slice ht h with ⟨h0, _⟩ | ⟨a, len, cap, m, n, D, Pl, hcs, hb, hle, hm, hmm, hx, hi⟩
  · simp at h0
    subst h0
    exact ⟨[], SlR.nil_ _ (by unfold maxLen; omega) _, by unfold Fit; simp⟩
  · simp at hcs
    subst hcs
    rw [hC] at hi
    have hlm : len ≤ m := by rw [hmm]; split <;> omega
    subst hx
    have hel : ∀ i, i < len → Light P e (D i) := by
      intro i hil n hn
      refine hl n ?_
      simp only [DataW.weights, ht, List.mem_cons, List.mem_append]
      exact Or.inr (Or.inl (weightsAll_mem (List.mem_map.2 ⟨i, List.mem_range.2 hil, rfl⟩) n hn))
    have key : ∀ i, i < len → ∃ z : α, ∃ x : List Value, x.length = size ∧ R x z ∧ ∀ (j : Nat) (u : Value), x[j]? = some u → w.cell? (a.add (i * size + j)) = some u := by
      intro i hil
      obtain ⟨cs', h1, h2⟩ := hi i (by omega)
      obtain ⟨_, hlen, hat⟩ := World.cells?_some h1
      obtain ⟨z, hz⟩ := hR n cs' _ hlen h2 (hel i hil)
      refine ⟨z, cs', hlen, hz, fun j u hu => ?_⟩
      have hj : j < size := by rw [← hlen]; exact (List.getElem?_eq_some_iff.1 hu).1
      have := hat j hj
      rw [hu] at this
      rw [← Go.Deep.add_add]
      exact this
    obtain ⟨l, hlen, hp⟩ := list_of_forall len key
    refine ⟨l, ⟨some a, cap, by rw [hlen], by omega, hm, fun hl0 => ?_⟩, ?_⟩
    · obtain ⟨b, off, spot⟩ := a
      obtain ⟨x, hx1, _, hx3⟩ := hp 0 l[0] (List.getElem?_eq_getElem hl0)
      have hc0 := hx3 0 x[0] (List.getElem?_eq_getElem (by omega))
      have hspot : spot = none := by simpa [Addr.add] using World.cell?_spot hc0
      subst hspot
      refine ⟨b, off, rfl, by simpa [Addr.add] using cell_lt hc0, fun i y hy => ?_⟩
      obtain ⟨x, hx1, hx2, hx3⟩ := hp i y hy
      refine ⟨x, hx1, hx2, fun j u hu => ?_⟩
      have := hx3 j u hu
      have e : (Addr.add ⟨b, off, none⟩ (i * size + j)) = ⟨b, off + i * size + j, none⟩ := by
        unfold Addr.add
        split
        · rename_i h0
          rw [Nat.add_assoc, h0, Nat.add_zero]
        · rw [Nat.add_assoc]
      rwa [e] at this
    · have hw : (len + (m - len)) * bytes ≤ reachBytes := by
        refine hl _ ?_
        simp only [DataW.weights, ht, List.mem_cons, hby, List.length_map, List.length_range]
        exact Or.inl trivial
      unfold Fit
      rw [hlen]
      have hr : reachBytes < 2 ^ 47 := by decide
      have : len * bytes ≤ (len + (m - len)) * bytes := Nat.mul_le_mul_right _ (by omega)
      omega
theorem open_fields_light {e : TypeId} {fs : Array Field} {fuel : Nat} {x : List Value} {d : DataW H × List MemPlace} (he : P.underlying e = some (.struct fs)) (hone : oneCellFields P fs = true) (hC : P.cellsOf e = fs.size)
    (h : DataW.trod enc P w base spare held fuel e x = some d) (hl : Light P e d.1) :
    x.length = fs.size ∧ ∃ n, ∀ (j : Nat) (f : Field), fs[j]? = some f → ∃ (u : Value) (y : DataW H × List MemPlace), x[j]? = some u ∧ DataW.trod enc P w base spare held n f.type [u] = some y ∧ Light P f.type y.1 := by
  obtain ⟨ys, n, hn, hy, hlen, hyl, hf⟩ := DataW.trod_struct he h
  rw [hC] at hlen
  refine ⟨hlen, n, fun j f hj => ?_⟩
  obtain ⟨ho, hk⟩ := hone_of hone j f hj
  have hjl : j < fs.size := (Array.getElem?_eq_some_iff.1 hj).1
  have h1 := hf j f hj
  rw [ho, hk] at h1
  have hone' : (x.drop j).take 1 = [x[j]'(by omega)] := by
    rw [List.drop_eq_getElem_cons (by omega)]
    rfl
  rw [hone', List.getElem?_eq_getElem (show j < ys.length by omega)] at h1
  refine ⟨_, _, List.getElem?_eq_getElem (by omega), h1, fun n hn => hl n ?_⟩
  subst hy
  simp only [DataW.weights, he]
  exact DataW.weights_mem_each (j := j) (by simp [hj]) (by simp [List.getElem?_eq_getElem (show j < ys.length by omega)]) n hn
end
theorem open_text {H : Type} {enc : TypeId × Value → H} {P : Program} {w : World} {n : Nat} {t : TypeId} {u : Value} {d : DataW H × List MemPlace} (ht : P.underlying t = some .string) (h : DataW.trod enc P w 0 (fun _ => true) true n t [u] = some d) (hl : Light P t d.1) :
    ∃ s : ByteArray, u = .string s ∧ s.size ≤ 140737488351232 := by
  obtain ⟨a1, hk, hy1, b1⟩ := DataW.trod_string ht h
  simp at hk
  subst hk
  refine ⟨a1, rfl, ?_⟩
  subst hy1
  have := hl a1.data.toList.length (by simp [DataW.weights])
  have e3 : reachBytes = 140737488351232 := rfl
  have e : a1.data.toList.length = a1.size := Array.length_toList
  omega
end Go.Proofs.YtpkggobhhieeoaaDoor
namespace Go.Proofs.YtpkggobhhieeoaaDoor
open Go.RowKit
theorem unq_len20 : ∀ (f i : Nat) (l o s : List Nat) (k : Nat), Bytes l → unq l f i o = (s, k, 0) → s.length + i + 1 ≤ o.length + k
  | 0, i, l, o, s, k, _, h => by simp [unq] at h
  | f + 1, i, l, o, s, k, hl, h => by
    rw [unq] at h
    split at h
    · injection h with h1 h2
      injection h2 with h2 _
      subst h1 h2
      omega
    · rename_i hi
      split at h
      · rename_i c n m hone
        have hd : Bytes (l.drop i) := fun x hx => hl x (List.mem_of_mem_drop hx)
        obtain ⟨c1, c2, _⟩ := one_some hd (by rw [List.head?_drop]; exact hi) hone
        have := (form_len c).1
        have h3 := unq_len20 f (i + n) l (o ++ [c]) s k hl h
        rw [List.length_append, List.length_singleton] at h3
        omega
      · simp at h
theorem unquote_no {s : List Nat} {a : Nat} (ha : a ≤ s.length) (h : s[a]? ≠ some 34) : unquoteN s (a : Int) = ([], (a : Int), 10) := by
  unfold unquoteN
  rw [if_neg (by omega), Int.toNat_natCast, if_pos h]
section
variable {s : List Nat} {b k : Nat} {t : List Nat}
theorem mark_some (hs : Bytes s) (h : markS s b = .inl (t, k)) : s[b]? = some 34 ∧ quoteAt s b = (t, k, 0) ∧ t ≠ [] ∧ Bytes t ∧ b < k ∧ k ≤ s.length ∧ t.length ≤ s.length := by
  unfold markS at h
  split at h
  · cases h
  · rename_i h1
    split at h
    · cases h
    · rename_i h2
      split at h
      · cases h
      · rename_i h3
        injection h with h
        injection h with e1 e2
        have h2' : (quoteAt s b).2.2 = 0 := by omega
        have hq : quoteAt s b = (t, k, 0) := by rw [← e1, ← e2, ← h2']
        have hi := quote_in hs hq
        have hl := unq_len20 _ _ _ _ _ _ hs hq
        rw [e1] at h3
        refine ⟨by simpa using h1, hq, h3, hi.1, by omega, hi.2.2, ?_⟩
        rw [List.length_nil] at hl
        omega
theorem name_some (hb : b ≤ s.length) (h : nameS s b = .inl (t, k)) : t = cutN s b k ∧ k = nameE s b ∧ b < k ∧ k ≤ s.length := by
  unfold nameS at h
  split at h
  · cases h
  · injection h with h
    injection h with e1 e2
    have := nameE_in hb
    rw [e2] at e1 this
    exact ⟨e1.symm, e2.symm, by omega, this.2⟩
theorem expr_some (hs : Bytes s) (hb : b ≤ s.length) (h : exprS s b = .inl (t, k)) : t = cutN s b k ∧ k = endE s b ∧ b ≤ k ∧ k ≤ s.length ∧ (parseN t).2.2 = 0 := by
  unfold exprS at h
  split at h
  · cases h
  · rename_i h1
    injection h with h
    injection h with e1 e2
    have := end_in hs s.length b hb
    rw [show endTo s s.length b = endE s b from rfl, e2] at this
    rw [e2] at e1 h1
    rw [e1] at h1
    exact ⟨e1.symm, e2.symm, this.1, this.2, by omega⟩
end
theorem insert_some {s : List Nat} (hs : Bytes s) (h4 : s.length ≤ 4096) {b k : Nat} (hb : b ≤ s.length) {p : Pc} (h : insertS s b = .inl (p, k)) : p.ok ∧ b < k ∧ k ≤ s.length := by
  have hc : ∀ x y, y ≤ s.length → Bytes (cutN s x y) ∧ (cutN s x y).length ≤ 4096 := fun x y hy => ⟨cut_bytes hs x y, by rw [cut_len hy]; omega⟩
  have lt : ∀ {i c : Nat}, s[i]? = some c → i + 1 ≤ s.length := fun h => (List.getElem?_eq_some_iff.1 h).1
  have b0 : Bytes ([] : List Nat) := bytes_nil
  unfold insertS at h
  split at h
  · rename_i h1
    cases hn : nameS s (b + 1) with
    | inr j => rw [hn] at h; cases h
    | inl x =>
      obtain ⟨t, j⟩ := x
      rw [hn] at h
      obtain ⟨rfl, _, g1, g2⟩ := name_some (lt h1) hn
      injection h with h
      injection h with e1 e2
      subst e1 e2
      exact ⟨⟨(hc _ _ g2).1, b0, (hc _ _ g2).2, by simp, rfl⟩, by omega, g2⟩
  · split at h
    · rename_i h1
      cases hn : nameS s (b + 1) with
      | inr j => rw [hn] at h; cases h
      | inl x =>
        obtain ⟨t, j⟩ := x
        rw [hn] at h
        obtain ⟨rfl, _, g1, g2⟩ := name_some (lt h1) hn
        simp only [thenS] at h
        split at h
        · rename_i h2
          cases hm : markS s (j + 1) with
          | inr j => rw [hm] at h; cases h
          | inl x =>
            obtain ⟨m, i⟩ := x
            rw [hm] at h
            obtain ⟨_, _, _, m1, m2, m3, m4⟩ := mark_some hs hm
            injection h with h
            injection h with e1 e2
            subst e1 e2
            exact ⟨⟨(hc _ _ g2).1, m1, (hc _ _ g2).2, by show m.length ≤ 4096; omega, rfl⟩, by omega, m3⟩
        · injection h with h
          injection h with e1 e2
          subst e1 e2
          exact ⟨⟨(hc _ _ g2).1, b0, (hc _ _ g2).2, by simp, rfl⟩, by omega, g2⟩
    · split at h
      · rename_i h1
        split at h
        · rename_i h2
          cases hn : nameS s (b + 2) with
          | inr j => rw [hn] at h; cases h
          | inl x =>
            obtain ⟨t, j⟩ := x
            rw [hn] at h
            obtain ⟨rfl, _, g1, g2⟩ := name_some (lt h2) hn
            simp only [thenS] at h
            split at h
            · rename_i h3
              cases hm : nameS s (j + 1) with
              | inr j => rw [hm] at h; cases h
              | inl x =>
                obtain ⟨m, i⟩ := x
                rw [hm] at h
                obtain ⟨rfl, _, m1, m2⟩ := name_some (lt h3) hm
                injection h with h
                injection h with e1 e2
                subst e1 e2
                exact ⟨⟨(hc _ _ g2).1, (hc _ _ m2).1, (hc _ _ g2).2, (hc _ _ m2).2, rfl⟩, by omega, m2⟩
            · injection h with h
              injection h with e1 e2
              subst e1 e2
              exact ⟨⟨(hc _ _ g2).1, b0, (hc _ _ g2).2, by simp, rfl⟩, by omega, g2⟩
        · cases h
      · split at h
        · rename_i h1
          cases hn : exprS s (b + 1) with
          | inr j => rw [hn] at h; cases h
          | inl x =>
            obtain ⟨t, j⟩ := x
            rw [hn] at h
            obtain ⟨rfl, _, g1, g2, _⟩ := expr_some hs (lt h1) hn
            injection h with h
            injection h with e1 e2
            subst e1 e2
            exact ⟨⟨(hc _ _ g2).1, b0, (hc _ _ g2).2, by simp, rfl⟩, by omega, g2⟩
        · cases h
theorem cut_txt (s : ByteArray) (b n : Nat) : s.extract b n = txt (cutN (bs s) b n) := by rw [← txt_bs (s.extract b n), bs_extract]; rfl
end Go.Proofs.YtpkggobhhieeoaaDoor
namespace Go.Proofs.YtpkggobhhieeoaaDoor
open Go.RowKit
theorem parse_in {s : List Nat} (hs : Bytes s) (h4 : s.length ≤ 4096) : (parseN s).2.1 ≤ s.length := by
  rcases scan_cases hs h4 with ⟨T, i', hT, e⟩ | ⟨T, r', i', n, hT, ⟨g1, g2, g3⟩, e⟩
  · rw [parseN_run e]
    cases hp : parseT T with
    | out => exact Nat.zero_le _
    | ok t j => simp only; split <;> exact Nat.zero_le _
    | no i =>
      simp only
      cases hi : T[i]? with
      | none => exact Nat.le_refl _
      | some x =>
        obtain ⟨i1, hx, hle, _⟩ := scan_cut hs h4 hT hi
        simp only
        omega
  · rw [parseN_scan (by rw [e]; simp), e]
    obtain ⟨m, h1, h2, h3⟩ := hT.place hs
    have hr' : Bytes r' := by rw [h3]; exact bytes_drop hs m
    have h5 := (tok_cut hr' g1 g3).1
    rw [h3, List.length_drop] at h5
    simp only
    omega
end Go.Proofs.YtpkggobhhieeoaaDoor
namespace Go.Proofs.YtpkggobhhieeoaaDoor
open Go.RowKit
theorem next_one {s t : ByteArray} {i c : Nat} (ht : bs t = [c]) : nextB s i t = decide ((bs s)[i]? = some c) := by
  unfold nextB
  have h1 : t.size = 1 := by rw [← bs_len, ht]; rfl
  rw [h1, ht]
  congr 1
  rw [eq_iff_iff, ← List.head?_drop]
  cases (bs s).drop i with
  | nil => simp
  | cons a l => simp
theorem next_two {s t : ByteArray} {i c : Nat} (ht : bs t = [c, c]) : nextB s i t = (decide ((bs s)[i]? = some c) && decide ((bs s)[i + 1]? = some c)) := by
  unfold nextB
  have h1 : t.size = 2 := by rw [← bs_len, ht]; rfl
  rw [h1, ht, ← Bool.decide_and]
  congr 1
  rw [eq_iff_iff, ← List.head?_drop, ← List.head?_drop, ← List.drop_drop]
  cases (bs s).drop i with
  | nil => simp
  | cons a l => cases l with
    | nil => simp
    | cons b l => simp
def TReads {α : Type} (q : Nat) (s : ByteArray) (v : Value) (W : World) (val : α → Value) : (α × Nat) ⊕ Nat → Ending → World → Prop
  | .inl (t, j), e, w' => e = .returned (val t) ∧ Mv q W w' ∧ RdS q s v j w'
  | .inr k, e, w' => e = .panicked (thrownT k 200) ∧ Mv q W w'
def txtV (t : List Nat) : Value := .string (txt t)
def Pc.val (p : Pc) : Value := .agg #[.int .i64 p.kind, .string (txt p.text), .string (txt p.mark)]
section
variable {q : Nat} {s : ByteArray} {v : Value} {i : Nat} {W : World}
theorem t_must_yes (t : ByteArray) {c : Nat} (ht : bs t = [c]) (hc : (bs s)[i]? = some c) (h : RdS q s v i W) : Calls Tryd.prog 17 #[.pointer (some ⟨q, 0, none⟩), .string t] W fun e w' => e = .returned (.tuple #[]) ∧ Mv q W w' ∧ RdS q s v (i + 1) w' := by
  obtain ⟨f0, f1, f2, f3, f4, f5⟩ := h.facts
  have hlt : i + 1 ≤ s.size := by rw [← bs_len]; exact (List.getElem?_eq_some_iff.1 hc).1
  have hfew := h.few
  have i63 : (i : Int) ≤ 5000 := by omega
  have i0 : (0 : Int) ≤ (i : Int) := Int.natCast_nonneg _
  have H := zH h
  have HN := zH (t_next t (by rw [← bs_len, ht]; exact Nat.le_of_ble_eq_true rfl) true (by rw [next_one ht, hc]; simp) h)
  clear h hc hfew ht
  go_enter Tryd.func17, Tryd.ntmps17
  go_wp2_with (go_at_call 15; (with_reducible refine HN.out.mono ?_); rintro e w1 ⟨rfl, nq, rfl⟩)
  go_end0
  exact ⟨rfl, H.out.step (j := i + 1) (by go_num) hlt nq⟩
theorem t_must_no (t : ByteArray) {c : Nat} (ht : bs t = [c]) (hc : (bs s)[i]? ≠ some c) (h : RdS q s v i W) : Calls Tryd.prog 17 #[.pointer (some ⟨q, 0, none⟩), .string t] W fun e w' => e = .panicked (thrownT i 200) ∧ Quiet W w' := by
  obtain ⟨f0, f1, f2, f3, f4, f5⟩ := h.facts
  have HN := zH (t_next t (by rw [← bs_len, ht]; exact Nat.le_of_ble_eq_true rfl) false (by rw [next_one ht]; simpa using hc) h)
  clear h hc ht
  go_enter Tryd.func17, Tryd.ntmps17
  go_wp2_with (go_at_call 15; (with_reducible refine HN.out.mono ?_); rintro e w1 ⟨rfl, nq, rfl⟩)
  exact ⟨rfl, rfl, nq, rfl⟩
theorem t_name {R : (List Nat × Nat) ⊕ Nat} (hR : nameS (bs s) i = R) (h : RdS q s v i W) : Calls Tryd.prog 28 #[.pointer (some ⟨q, 0, none⟩)] W (TReads q s v W txtV R) := by
  obtain ⟨n, hn⟩ : ∃ n, s.size = n := ⟨_, rfl⟩
  have hln : (bs s).length = n := by rw [bs_len, hn]
  have hn' : (s.size : Int) = (n : Int) := by rw [hn]
  obtain ⟨f0, f1, f2, f3, f4, f5⟩ := h.facts
  have hle := h.le
  have hfew := h.few
  rw [hn] at hle hfew
  obtain ⟨E, hE⟩ : ∃ E, nameE (bs s) i = E := ⟨_, rfl⟩
  have hE2 : nameTo (bs s) i n i = E := by rw [← hE, ← hln]; rfl
  have hR2 : R = if E = i then .inr i else .inl (cutN (bs s) i E, E) := by rw [← hR]; unfold nameS; rw [hE]
  have HR := zH hR2
  have HE := zH hE2
  have Hln := zH hln
  have Hn := zH hn
  have H := zH h
  have RT : Hid (∀ (k : Nat) (c : Bool) (W : World), k ≤ n → rightN (cutN (bs s) i k) = c → Calls Tryd.prog 38 #[.string (s.extract i k)] W fun e w' => e = .returned (.bool c) ∧ Quiet W w') := zH (fun k c W hk hc => by
    have := right_any (s.extract i k) (by rw [← bs_len, bs_extract, List.length_drop, List.length_take, Hln.out]; unfold maxLen; omega) W
    rw [bs_extract] at this
    rw [← hc]
    exact this)
  have i0 : (0 : Int) ≤ (i : Int) := Int.natCast_nonneg _
  clear hR hR2 hE hE2 hln hn h
  go_enter Tryd.func28, Tryd.ntmps28
  go_wp2_with fail
  clear f0 f1 f2 f3 f4 f5
  go_loopg [] n (fun gk wr => ∃ k, i ≤ k ∧ k ≤ n ∧ n ≤ gk + k ∧ Hid (nameTo (bs s) i gk k = E) ∧ Hid (Mv q W wr) ∧ Hid (RdS q s v k wr))
  case atStart => exact ⟨i, Nat.le_refl _, hle, by omega, HE, zH (Mv.refl _ _), H⟩
  case round =>
    obtain ⟨k, hbk, hkn, hfk, hu, hm, hp⟩ := hrel
    obtain ⟨f0, f1, f2, f3, f4, f5⟩ := hp.out.facts
    have k0 : (0 : Int) ≤ (k : Int) := Int.natCast_nonneg _
    have HEND : Hid (E = k → ∀ (wz : World), Quiet wr wz → wz.cell? ⟨q, 0, none⟩ = some (.string s) ∧ wz.cell? ⟨q, 1, none⟩ = some (.int .i64 (k : Int)) ∧ q < wz.heap.size) := zH (fun _ wz hq => by
      have h2 := (hp.out.quiet hq).facts
      exact ⟨h2.1, h2.2.1, h2.2.2.2.2.2⟩)
    by_cases hlt : k < n
    · have d1 : decide (k < n) = true := by simpa using hlt
      have k2 : (k : Int) + 1 ≤ (n : Int) := by omega
      obtain ⟨c, hc⟩ : ∃ c, rightN (cutN (bs s) i (k + 1)) = c := ⟨_, rfl⟩
      have R1 := zH (fun W => RT.out (k + 1) c W hlt hc)
      have HC := zH hc
      clear hc
      cases c
      · have hE := name_end hu.out (fun _ => HC.out)
        subst hE
        by_cases hEi : E = i
        · subst hEi
          have e4 : ((E : Int) == (E : Int)) = true := by simp
          have hv := HR.out
          rw [if_pos rfl] at hv
          subst hv
          clear HR HEND
          go_wp2_with fail
          go_quiet ((go_at_call 38; exact quiet_call (R1.out _) rfl))
          go_wp2_with fail
          exact ⟨rfl, rfl, hm.out.trans (Mv.quiet ⟨_, rfl⟩)⟩
        · have e4 : ((E : Int) == (i : Int)) = false := by simp; omega
          have hv := HR.out
          rw [if_neg hEi] at hv
          subst hv
          have i1 : (i : Int) ≤ (E : Int) := by omega
          have i2 : (E : Int) ≤ (n : Int) := by omega
          clear hEi HR HEND
          go_wp2_with fail
          go_quiet ((go_at_call 38; exact quiet_call (R1.out _) rfl))
          go_wp2_with fail
          go_quiet (fail)
          go_wp2_with fail
          go_ret
          exact ⟨by rw [txtV, ← cut_txt]; rfl, hm.out.trans (Mv.quiet (Quiet.drewN ⟨_, rfl⟩ _)), hp.out.quiet (Quiet.drewN ⟨_, rfl⟩ _)⟩
      · have hv := name_on hu.out (by omega) (by rw [Hln.out]; exact hlt) HC.out
        have HV := zH hv
        have HST := zH (fun nq => hp.out.step (j := k + 1) (u := .int .i64 ((k : Int) + 1)) (by go_num) (by rw [Hn.out]; exact hlt) nq)
        clear hv HEND
        go_wp2_with fail
        go_quiet ((go_at_call 38; exact quiet_call (R1.out _) rfl))
        go_wp2_with fail
        go_roundg (gk - 1)
        case measure => omega
        case rel => exact ⟨k + 1, by omega, by omega, by omega, HV.out, zH (hm.out.trans (HST.out _).1), zH (HST.out _).2⟩
    · have d1 : decide (k < n) = false := by simpa using hlt
      have hE := name_end hu.out (fun h => absurd h (by rw [Hln.out]; exact hlt))
      subst hE
      by_cases hEi : E = i
      · subst hEi
        have e4 : ((E : Int) == (E : Int)) = true := by simp
        have hv := HR.out
        rw [if_pos rfl] at hv
        subst hv
        clear HR HEND
        go_wp2_with fail
        go_quiet (fail)
        go_wp2_with fail
        exact ⟨rfl, rfl, hm.out.trans (Mv.quiet ⟨_, rfl⟩)⟩
      · have e4 : ((E : Int) == (i : Int)) = false := by simp; omega
        have hv := HR.out
        rw [if_neg hEi] at hv
        subst hv
        have i1 : (i : Int) ≤ (E : Int) := by omega
        have i2 : (E : Int) ≤ (n : Int) := by omega
        clear hEi HR HEND
        go_wp2_with fail
        go_quiet (fail)
        go_wp2_with fail
        go_quiet (fail)
        go_wp2_with fail
        go_ret
        exact ⟨by rw [txtV, ← cut_txt]; rfl, hm.out.trans (Mv.quiet (Quiet.drewN ⟨_, rfl⟩ _)), hp.out.quiet (Quiet.drewN ⟨_, rfl⟩ _)⟩
end
end Go.Proofs.YtpkggobhhieeoaaDoor
namespace Go.Proofs.YtpkggobhhieeoaaDoor
open Go.RowKit
theorem txt_empty_iff {t : List Nat} : (txt t).toList = [] ↔ t = [] := by
  constructor
  · intro h
    have h2 : (txt t).toList = (⟨#[]⟩ : ByteArray).toList := h.trans (by rw [ByteArray.toList_eq])
    have h3 := (toList_inj _ _).1 h2
    have := txt_size t
    rw [h3] at this
    exact List.eq_nil_of_length_eq_zero this.symm
  · intro h; subst h; rw [ByteArray.toList_eq]; rfl
section
variable {q : Nat} {s : ByteArray} {v : Value} {i : Nat} {W : World}
theorem unquote_place (s : List Nat) (i : Nat) (hi : i ≤ s.length) : ∃ (t : List Nat) (j e : Nat), unquoteN s (i : Int) = (t, (j : Int), e) ∧ markS s i = (if e ≠ 0 then .inr j else if t = [] then .inr (i + 1) else .inl (t, j)) := by
  by_cases h : s[i]? = some 34
  · refine ⟨(quoteAt s i).1, (quoteAt s i).2.1, (quoteAt s i).2.2, unquote_at h, ?_⟩
    unfold markS
    rw [if_neg (by simpa using h)]
  · refine ⟨[], i, 10, unquote_no hi h, ?_⟩
    unfold markS
    rw [if_pos h]
    rfl
theorem t_unq {t : List Nat} {j e : Nat} (hi : i ≤ s.size) (hf : s.size ≤ 4096) (hu : unquoteN (bs s) (i : Int) = (t, (j : Int), e)) (W : World) :
    Calls Tryd.prog 41 #[.string s, .int .i64 (i : Int)] W fun x w' => x = .returned (.tuple #[.string (txt t), .int .i64 (j : Int), .int .i64 (e : Int)]) ∧ Below W.heap.size W w' := by
  have := unquote_any s (i : Int) (wf47 (by omega) (by omega)) (by omega) W
  rw [hu] at this
  exact this
theorem RdS.setN (h : RdS q s v i W) {j : Nat} (hj : j ≤ s.size) : Mv q W (W.setCell ⟨q, 1, none⟩ (.int .i64 (j : Int))) ∧ RdS q s v j (W.setCell ⟨q, 1, none⟩ (.int .i64 (j : Int))) := ⟨Mv.set _ _ _ _, h.set rfl hj⟩
theorem Mv.belowB {W W' : World} (h : Below W.heap.size W W') (hq : q < W.heap.size) : Mv q W W' := Mv.of_below h (Nat.le_of_lt hq)
theorem t_mark {R : (List Nat × Nat) ⊕ Nat} (hR : markS (bs s) i = R) (h : RdS q s v i W) : Calls Tryd.prog 29 #[.pointer (some ⟨q, 0, none⟩)] W (TReads q s v W txtV R) := by
  obtain ⟨f0, f1, f2, f3, f4, f5⟩ := h.facts
  have hle := h.le
  have hfew := h.few
  obtain ⟨t, j, e, hu, hm⟩ := unquote_place (bs s) i (by rw [bs_len]; exact hle)
  rw [hR] at hm
  have UQ := zH (fun W => t_unq hle hfew hu W)
  have i0 : (0 : Int) ≤ (i : Int) := Int.natCast_nonneg _
  have i5 : (i : Int) ≤ 5000 := by omega
  have H := zH h
  have HJ : Hid (∀ t2 k, R = .inl (t2, k) → k ≤ s.size) := zH (fun t2 k hk => by
    have h2 := mark_some (bs_bytes s) (hR.trans hk)
    rw [bs_len] at h2
    exact h2.2.2.2.2.2.1)
  clear hR hu h hle hfew
  by_cases he : e = 0
  · subst he
    rw [if_neg (by simp)] at hm
    by_cases ht : t = []
    · rw [if_pos ht] at hm
      subst hm ht
      have e1 : ((txt []).toList == []) = true := by rw [txt_empty_iff.2 rfl]; rfl
      go_enter Tryd.func29, Tryd.ntmps29
      go_wp2_with fail
      go_region_held3 (fun w' => w'.cell? ⟨q, 0, none⟩ = some (.string s) ∧ w'.cell? ⟨q, 1, none⟩ = some (.int .i64 (i : Int)))
        (first | exact ⟨f0, f1⟩ | exact ⟨g0, K1⟩ | go_keep | fail)
        (first
          | (go_at_call 41; refine (UQ.out _).mono ?_; rintro e w1 ⟨rfl, h1⟩; have M1 : Hid (Mv q W w1) := zH ((Mv.quiet ⟨1, rfl⟩).trans (Mv.belowB h1 f5)); have P1 := zH ((H.out.quiet ⟨1, rfl⟩).keep h1); clear h1; obtain ⟨g0, K1, g2, g3, g4, g5⟩ := P1.out.facts))
      go_wp2_with fail
      exact ⟨rfl, rfl, M1.out⟩
    · rw [if_neg ht] at hm
      subst hm
      have e1 : ((txt t).toList == []) = false := by
        have := mt txt_empty_iff.1 ht
        simpa using this
      have HJ2 := zH (HJ.out t j rfl)
      go_enter Tryd.func29, Tryd.ntmps29
      go_wp2_with fail
      go_region_held3 (fun w' => w'.cell? ⟨q, 0, none⟩ = some (.string s) ∧ w'.cell? ⟨q, 1, none⟩ = some (.int .i64 (i : Int)))
        (first | exact ⟨f0, f1⟩ | exact ⟨g0, K1⟩ | go_keep | fail)
        (first
          | (go_at_call 41; refine (UQ.out _).mono ?_; rintro e w1 ⟨rfl, h1⟩; have M1 : Hid (Mv q W w1) := zH ((Mv.quiet ⟨1, rfl⟩).trans (Mv.belowB h1 f5)); have P1 := zH ((H.out.quiet ⟨1, rfl⟩).keep h1); clear h1; obtain ⟨g0, K1, g2, g3, g4, g5⟩ := P1.out.facts))
      go_wp2_with fail
      go_ret
      exact ⟨rfl, M1.out.trans (P1.out.setN HJ2.out).1, (P1.out.setN HJ2.out).2⟩
  · rw [if_pos he] at hm
    subst hm
    have e1 : ((e : Int) != 0) = true := by simp; omega
    go_enter Tryd.func29, Tryd.ntmps29
    go_wp2_with fail
    go_region_held3 (fun w' => w'.cell? ⟨q, 0, none⟩ = some (.string s) ∧ w'.cell? ⟨q, 1, none⟩ = some (.int .i64 (i : Int)))
      (first | exact ⟨f0, f1⟩ | exact ⟨g0, K1⟩ | go_keep | fail)
      (first
        | (go_at_call 41; refine (UQ.out _).mono ?_; rintro e w1 ⟨rfl, h1⟩; have M1 : Hid (Mv q W w1) := zH ((Mv.quiet ⟨1, rfl⟩).trans (Mv.belowB h1 f5)); have P1 := zH ((H.out.quiet ⟨1, rfl⟩).keep h1); clear h1; obtain ⟨g0, K1, g2, g3, g4, g5⟩ := P1.out.facts))
    go_wp2_with fail
    exact ⟨rfl, rfl, M1.out⟩
end
end Go.Proofs.YtpkggobhhieeoaaDoor
