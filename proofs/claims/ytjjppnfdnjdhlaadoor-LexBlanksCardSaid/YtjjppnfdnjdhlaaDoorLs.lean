/- The law's walk: 'topiarylaw07.LexScans' returns true whatever the text; the variable of the marks holds what it began with. -/
import Derived.Test.YtjjppnfdnjdhlaaDoorAlike
import Derived.OneCell
namespace Go.Proofs.YtjjppnfdnjdhlaaDoor
open Go.RowKit

/-- cells of whatever one-cell values -/
def OneC (x : List Value) (_ : Unit) : Prop := ∀ u ∈ x, u.oneCell' = true
theorem FlatR.cells {size n : Nat} {xs : List Value} (hl : xs.length = n * size) (h : ∀ u ∈ xs, u.oneCell' = true) : FlatR size OneC xs (List.replicate n ()) :=
  ⟨by rw [hl, List.length_replicate], fun _ _ _ u hu => h u (List.mem_of_mem_drop (List.mem_of_mem_take hu))⟩
theorem FlatR.all {α : Type} {size : Nat} {R : List Value → α → Prop} {xs : List Value} {l : List α} (h : FlatR size R xs l) (hs : 0 < size) (h1 : ∀ x y, R x y → ∀ u ∈ x, u.oneCell' = true) : ∀ u ∈ xs, u.oneCell' = true := by
  intro u hu
  obtain ⟨k, hk⟩ := List.mem_iff_getElem?.1 hu
  have hkl : k < xs.length := (List.getElem?_eq_some_iff.1 hk).1
  have hkm : k / size < l.length := by rw [h.1] at hkl; exact Nat.div_lt_of_lt_mul (by rwa [Nat.mul_comm])
  refine h1 _ _ (h.2 (k / size) _ (List.getElem?_eq_getElem hkm)) u (List.mem_iff_getElem?.2 ⟨k % size, ?_⟩)
  rw [List.getElem?_take_of_lt (Nat.mod_lt _ hs), List.getElem?_drop, Nat.mul_comm, Nat.div_add_mod, hk]
theorem Own1.cells_only {α : Type} {w : World} {base size : Nat} {e : TypeId} {R : List Value → α → Prop} {v : Value} {l : List α} (h : Own1 w base e size R v l) (hs : 0 < size) (h1 : ∀ x y, R x y → ∀ u ∈ x, u.oneCell' = true) : Own1 w base e size OneC v (List.replicate l.length ()) := by
  obtain ⟨xs, a, b⟩ := h
  exact ⟨xs, by rw [List.length_replicate]; exact a, FlatR.cells b.1 (b.all hs h1)⟩
theorem Own1.put {w : World} {base size n : Nat} {e : TypeId} {v : Value} (h : Own1 w base e size OneC v (List.replicate n ())) (b i : Nat) (u : Value) (hu : u.oneCell' = true) (hs : 0 < size) : Own1 (w.setCell ⟨b, i, none⟩ u) base e size OneC v (List.replicate n ()) := by
  obtain ⟨xs, ⟨h0, h1⟩, h2⟩ := h
  have hall := h2.all hs (fun _ _ h => h)
  rcases h1 with ⟨rfl, h1⟩ | ⟨g, cap, cur, rfl, hg, hh, hn, hc, hsz, hxs⟩
  · exact ⟨xs, ⟨h0, .inl ⟨rfl, h1⟩⟩, h2⟩
  · by_cases hb : b = g
    · subst hb
      simp only [List.length_replicate] at h0 hn hxs
      have hb' : (w.setCell ⟨b, i, none⟩ u).heap[b]? = some (.cells (cur.setIfInBounds i u) e (0, 0)) := Blk.set_ hh i u
      have hsz' : (cur.setIfInBounds i u).size = cap * size := by rw [Array.size_setIfInBounds]; exact hsz
      have hall' : ∀ y ∈ (cur.setIfInBounds i u).toList.take (n * size), y.oneCell' = true := by
        intro y hy
        obtain ⟨j, hj⟩ := List.mem_iff_getElem?.1 hy
        have hjl : j < n * size := by
          have := (List.getElem?_eq_some_iff.1 hj).1
          rw [List.length_take] at this
          omega
        rw [List.getElem?_take_of_lt hjl, Array.getElem?_toList, Array.getElem?_setIfInBounds] at hj
        split at hj
        · split at hj
          · injection hj with hj
            subst hj
            exact hu
          · cases hj
        · refine hall y (List.mem_iff_getElem?.2 ⟨j, ?_⟩)
          rw [← hxs, List.getElem?_take_of_lt hjl, Array.getElem?_toList]
          exact hj
      have hlen : ((cur.setIfInBounds i u).toList.take (n * size)).length = n * size := by
        have := Nat.mul_le_mul_right size hn
        rw [List.length_take, Array.length_toList, hsz']
        omega
      exact ⟨_, ⟨by rw [hlen, List.length_replicate], .inr ⟨b, cap, _, by rw [List.length_replicate], hg, hb', by rw [List.length_replicate]; exact hn, hc, hsz', by rw [List.length_replicate]⟩⟩, FlatR.cells hlen hall'⟩
    · exact ⟨xs, ownsRow_setCell_other ⟨h0, .inr ⟨g, cap, cur, rfl, hg, hh, hn, hc, hsz, hxs⟩⟩ (by simp [Value.ownBlock]; exact fun h => hb h.symm) u, h2⟩
/-- the cells of the element k, that may be written -/
theorem Own1.spot {w : World} {base n c : Nat} {e : TypeId} {a : Option Addr} (h : Own1 w base e 4 OneC (.slice a n c) (List.replicate n ())) {k : Nat} (hk : k < n) : ∃ g u0 u1 u2 u3, a = some ⟨g, 0, none⟩ ∧ base ≤ g ∧ g < w.heap.size ∧ w.cell? ⟨g, k * 4, none⟩ = some u0 ∧ w.cell? ⟨g, k * 4 + 1, none⟩ = some u1 ∧ w.cell? ⟨g, k * 4 + 2, none⟩ = some u2 ∧ w.cell? ⟨g, k * 4 + 3, none⟩ = some u3 ∧ (∀ i, w.frozen? ⟨g, i, none⟩ = false) := by
  obtain ⟨xs, h0, h2⟩ := h
  have hl : xs.length = n * 4 := by rw [h2.1, List.length_replicate]
  have h1 := h0
  rcases h0.2 with ⟨h, _⟩ | ⟨g, cap, cur, hv, hg, hh, hn, hc, hsz, hxs⟩
  · injection h with _ h _
    omega
  · injection hv with e1 e2 e3
    subst e1 e3
    have hcell : ∀ j, k * 4 + j < xs.length → ∃ u, w.cell? ⟨g, k * 4 + j, none⟩ = some u := fun j hj => by
      refine ⟨xs[k * 4 + j], ?_⟩
      have hcc : cur[k * 4 + j]? = some (xs[k * 4 + j]) := by
        rw [← List.getElem?_eq_getElem hj, ← hxs, List.getElem?_take_of_lt (by rw [List.length_replicate]; omega), Array.getElem?_toList]
      exact Blk.cell hh hcc
    obtain ⟨u0, c0⟩ := hcell 0 (by omega)
    obtain ⟨u1, c1⟩ := hcell 1 (by omega)
    obtain ⟨u2, c2⟩ := hcell 2 (by omega)
    obtain ⟨u3, c3⟩ := hcell 3 (by omega)
    exact ⟨g, u0, u1, u2, u3, rfl, hg, Blk.lt hh, c0, c1, c2, c3, fun i => Blk.frozen hh i⟩
/-- the row of tokens behind the growth of another one -/
theorem Own1.kept2 {α : Type} {w w' : World} {base size : Nat} {e : TypeId} {R : List Value → α → Prop} {v v' : Value} {l : List α} (h : Own1 w base e size R v l) (h' : ∀ g, v'.ownBlock = some g → g < base) (hg : w.grownBy w' v'.ownBlock) : Own1 w' base e size R v l := by
  have hb := h.block
  obtain ⟨xs, h1, h2⟩ := h
  refine ⟨xs, h1.kept hg ?_, h2⟩
  cases ho : v.ownBlock with
  | none => exact .inl rfl
  | some g =>
    refine .inr (fun he => ?_)
    have := h' g he.symm
    have := (hb g ho).1
    omega

theorem scanT_len (l : List Nat) : ∀ (f i : Nat) (o : List Tok), (scanT l f i o).1.length ≤ o.length + f
  | 0, i, o => by simp [scanT]
  | f + 1, i, o => by
    rw [scanT]
    split
    · simp
    · split
      · have := scanT_len l f (i + 1) o; omega
      · split
        · split
          · have := scanT_len l f (quoteAt l i).2.1 (o ++ [⟨2, (quoteAt l i).1, 0, i⟩]); simp at this; omega
          · simp
        · split
          · rename_i k s v _
            have := scanT_len l f (i + (stepP (l.drop i)).2) (o ++ [⟨k, s, v, i⟩]); simp at this; omega
          · simp
theorem scanN_len (l : List Nat) : (scanN l).1.length ≤ 4097 := by
  unfold scanN
  split
  · simp
  · have := scanT_len l (l.length + 1) 0 []; simp at this; omega

set_option maxRecDepth 100000 in
set_option maxHeartbeats 8000000 in
theorem scans_walk (s : ByteArray) (hs : s.size ≤ maxLen) (w : World) (hm : Marks w) : Calls Tryd.prog 3 #[.string s] w fun e w' => e = .returned (.bool true) ∧ Below w.heap.size w w' := by
  obtain ⟨j, hi, hz, hsz, hby⟩ := info_parts info_tok
  have I := Lib.hid (And.intro hi (And.intro hz (And.intro hsz hby)))
  clear hi hz hsz hby
  obtain ⟨R, hR⟩ : ∃ R, scanN (bs s) = R := ⟨_, rfl⟩
  have SC : Hid (∀ W, Below w.heap.size w W → Calls Tryd.prog 9 #[.string s] W (ScanIs W R)) := Lib.hid (fun W hW => hR ▸ scan_any s hs W (hm.below hW))
  have RS : Hid (∀ W, Calls Tryd.prog 10 #[.string s] W (ScanIs W R)) := Lib.hid (fun W => hR ▸ rscan_any s hs W)
  have hlen : R.1.length ≤ 4097 := by rw [← hR]; exact scanN_len _
  have Hlen := Lib.hid hlen
  obtain ⟨toks, at_, er⟩ := R
  dsimp only at Hlen
  have tokA : True := trivial
  clear hm hR hs hlen
  go_enter Tryd.func3, Tryd.ntmps3
  go_wp2_with (first
    | (go_at_call 9
       have _t := tokA
       refine (SC.out _ (Below.refl _ _)).mono ?_
       rintro e w1 ⟨a1, n1, c1, rfl, o1, b1⟩
       have O1 := Lib.hid o1
       have B1 := Lib.hid b1
       clear o1 b1 tokA _t)
    | (go_at_call 10
       refine (RS.out _).mono ?_
       rintro e w2 ⟨a2, n2, c2, rfl, o2, b2⟩
       have O2 := Lib.hid o2
       have O1' := Lib.hid (O1.out.below b2 (Nat.le_refl _))
       have B2 := Lib.hid (B1.out.trans (b2.mono B1.out.size))
       clear o2 b2)
    | (go_at_call 11
       refine (alike_at _ w2 (O1'.out.read (by omega)) (O2.out.read (by omega)) (Below.refl _ _)).mono ?_
       rw [eqBy_tok, decide_eq_true rfl]
       rintro e w3 ⟨rfl, q3⟩
       have O3 := Lib.hid (O2.out.below (q3.below _) (Nat.le_refl _))
       have P3 := Lib.hid (O1'.out.below (q3.below _) (Nat.le_refl _))
       have B3 := Lib.hid (B2.out.trans (q3.below _))
       clear q3))
  have hn1 : n1 = toks.length := by obtain ⟨_, _, h⟩ := O1.out.form; injection h
  have hn2 : n2 = toks.length := by obtain ⟨_, _, h⟩ := O2.out.form; injection h
  obtain ⟨N, hN⟩ : ∃ N, toks.length = N := ⟨_, rfl⟩
  rw [hN] at hn1 hn2
  have Q3 : Hid (Own1 w3 w.heap.size 30 4 OneC (.slice a1 n1 c1) (List.replicate N ())) := Lib.hid (hN ▸ P3.out.cells_only (by omega) Tok.Is.one)
  have hle : N ≤ 4097 := by have := Hlen.out; omega
  have HN := Lib.hid hN
  clear hN P3
  subst hn1 hn2
  go_loopw [9] (fun i wr => ∃ k : Nat, k ≤ n2 ∧ i = .int .i64 (k : Int) ∧ Hid (Own1 wr w.heap.size 30 4 OneC (.slice a1 n2 c1) (List.replicate n2 ()) ∧ Own1 wr w1.heap.size 30 4 Tok.Is (.slice a2 n2 c2) toks ∧ Below w.heap.size w wr)) (fun i _ => n2 - (intOf i).toNat)
  case atStart => exact ⟨0, Nat.zero_le _, rfl, Q3.out, O3.out, B3.out⟩
  case round =>
    obtain ⟨k, hk, rfl, hst⟩ := hrel
    have b1 : (0 : Int) ≤ (k : Int) := Int.natCast_nonneg _
    by_cases hlt : k < n2
    · obtain ⟨g, u0', u1', u2', u3', rfl, hg, hgl, x0, x1, x2, x3, hfz⟩ := hst.out.1.spot hlt
      have hg1 := (O1.out.block g rfl).2
      have f0 := hfz (k * 4)
      have f1 := hfz (k * 4 + 1)
      have f2 := hfz (k * 4 + 2)
      have f3 := hfz (k * 4 + 3)
      clear hfz
      go_wp2_with fail
      go_roundw
      case rel => exact ⟨k + 1, by omega, by go_num, ((((hst.out.1.put g _ _ rfl (by omega)).put g _ _ rfl (by omega)).put g _ _ rfl (by omega)).put g _ _ rfl (by omega)), ((((hst.out.2.1.setFar (by exact hg1) _).setFar (by exact hg1) _).setFar (by exact hg1) _).setFar (by exact hg1) _), ((((hst.out.2.2.setCell (by exact hg) _).setCell (by exact hg) _).setCell (by exact hg) _).setCell (by exact hg) _)⟩
      case measure => simp [intOf]; omega
    · have hdec : decide (k < n2) = false := by simp; omega
      have hdec2 : decide ((k : Int) < (n2 : Int)) = false := by simp; omega
      have tokB : True := trivial
      have tokC : True := trivial
      have hbz := hst.out.2.2.size
      clear Q3 O3 B3
      go_wp2_with (first
        | (at_builtin
           have _t := tokB
           go_must (refine wpList_append_list rfl (.tmp 47) (.tmp 49) _ rfl w.heap.size _ 30 j _ 4 40 Tryd.underlying22 I.out.1 I.out.2.1 I.out.2.2.1 I.out.2.2.2 rfl (by omega) (R := OneC) (l := List.replicate n2 ()) (m := [()]) (.slice a1 n2 c1) rfl (by exact hst.out.1.alloc _) (some ⟨wr.heap.size, 0, none⟩) 1 1 rfl (by exact SlR.new1 rfl rfl (by intro u hu; simp at hu; rcases hu with rfl | rfl | rfl | rfl <;> rfl)) (n2 + 1) (by rw [List.length_replicate]) (fun _ _ h => h) (by rw [List.length_replicate]; unfold maxLen; omega) (by rw [List.length_replicate]; omega) (by simp; omega) ?_)
           intro xa xc w9 hown hgr
           have hkept : Hid (Own1 w9 w1.heap.size 30 4 Tok.Is (.slice a2 n2 c2) toks) := Lib.hid ((hst.out.2.1.alloc _).kept2 (v' := .slice a1 n2 c1) (fun g hg => (O1.out.block g hg).2) hgr)
           have B9 : Hid (Below w.heap.size w w9) := Lib.hid ((hst.out.2.2.alloc hbz _).trans (below_of_grown (hst.out.1.alloc _) (by simp; omega) hgr))
           clear hown hgr tokB _t)
        | (go_at_call 9
           have _t := tokC
           refine (SC.out _ B9.out).mono ?_
           rintro e w10 ⟨a3, n3, c3, rfl, o3, b3⟩
           have O10 := Lib.hid o3
           have K10 := Lib.hid (hkept.out.below b3 (Nat.le_refl _))
           have B10 := Lib.hid (B9.out.trans (b3.mono B9.out.size))
           clear o3 b3 tokC _t)
        | (go_at_call 11
           refine (alike_at _ w10 (O10.out.read (by omega)) (K10.out.read (by omega)) (Below.refl _ _)).mono ?_
           rw [eqBy_tok, decide_eq_true rfl]
           rintro e w11 ⟨rfl, q11⟩
           have B11 := Lib.hid (B10.out.trans (q11.below _))
           clear q11))
      go_ret
      exact ⟨rfl, B11.out⟩
end Go.Proofs.YtjjppnfdnjdhlaaDoor
