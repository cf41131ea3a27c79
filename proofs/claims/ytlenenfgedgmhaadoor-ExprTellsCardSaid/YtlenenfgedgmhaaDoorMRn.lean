/- The plain law of the reference's Right: from the last node on to the first; rows of numbers that are written in place. The reference's Right. -/
import Derived.Test.YtlenenfgedgmhaaDoorMRt0
import Derived.Test.YtlenenfgedgmhaaDoorTw8
import Derived.Laws.OwnMore
import Derived.Laws.MakeOwn
import Derived.Test.YtlenenfgedgmhaaDoorMRm
import Derived.RegionTactic
import Derived.BigRegion
import Derived.Deep.QuietTactic
import Derived.BigQuiet
import Derived.OwnWalk
import Derived.StillTailTactics
namespace Go.Proofs.YtlenenfgedgmhaaDoor
set_option linter.unusedSimpArgs false
set_option linter.unusedVariables false
open Go.RowKit

theorem metL_congr {g g' : Nat → Option (Nat × Nat)} (hg : ∀ y r, g y = some r → y < r.2) : ∀ (ks : List Int) (p dp : Nat), (∀ y, p ≤ y → g y = g' y) → metL g ks p dp = metL g' ks p dp
  | [], p, dp, _ => rfl
  | k :: ks, p, dp, h => by
    simp only [metL]
    split
    · rw [← h p (Nat.le_refl _)]
      cases hx : g p with
      | none => rfl
      | some r =>
        have := hg p r hx
        exact metL_congr hg ks r.2 _ (fun y hy => h y (by omega))
    · rfl
/-- with fuel for all that stands behind, more fuel changes nothing -/
theorem met_fuel (l : List ND) : ∀ (f f' x : Nat), l.length ≤ x + f → l.length ≤ x + f' → metN l f x = metN l f' x
  | 0, 0, x, _, _ => rfl
  | 0, f' + 1, x, h, _ => by
    simp only [metN]
    rw [List.getElem?_eq_none (by omega)]
  | f + 1, 0, x, _, h => by
    simp only [metN]
    rw [List.getElem?_eq_none (by omega)]
  | f + 1, f' + 1, x, h, h' => by
    simp only [metN]
    cases l[x]? with
    | none => rfl
    | some d =>
      simp only
      split
      · rw [metL_congr (fun y r hr => (metN_in l f y r hr).1) d.kids (x + 1) 0 (fun y hy => met_fuel l f f' y (by omega) (by omega))]
      · rfl
/-- a node's reading by its parts', all with the same fuel -/
theorem met_step {l : List ND} {n i : Nat} {d : ND} (hn : l.length = n) (hd : l[i]? = some d) : metN l n i = if mayE d = true then (metL (metN l n) d.kids (i + 1) 0).map fun r => (r.1 + 1, r.2) else none := by
  have hi := (List.getElem?_eq_some_iff.1 hd).1
  obtain ⟨f, rfl⟩ : ∃ f, n = f + 1 := ⟨n - 1, by omega⟩
  rw [metN, hd]
  simp only
  split
  · rw [metL_congr (fun y r hr => (metN_in l f y r hr).1) d.kids (i + 1) 0 (fun y hy => met_fuel l f (f + 1) y (by omega) (by omega))]
  · rfl
/-- where a node is none, the whole is none -/
theorem right_no {l : List ND} (hok : ∀ d ∈ l, NdOk d) {i : Nat} (hi : i < l.length) (h : metN l l.length i = none) (h256 : l.length ≤ 256) : rightE l = 80 := by
  unfold rightE
  rw [if_neg (by omega)]
  cases hr : metN l l.length 0 with
  | none => rfl
  | some r =>
    simp only
    by_cases h2 : r.2 = l.length
    · exfalso
      obtain ⟨t, g1, g2, g3, _⟩ := metN_tree l hok _ _ _ hr
      subst g2
      simp only [Nat.zero_add] at h2
      have hsub : ∀ (t : Tr) (p i : Nat), i < t.size → Stands l t p → t.Good → ∃ f r, metN l f (p + i) = some r := by
        intro t
        suffices H : ∀ (N : Nat) (t : Tr), t.size ≤ N → ∀ (p i : Nat), i < t.size → Stands l t p → t.Good → ∃ f r, metN l f (p + i) = some r from fun p i => H t.size t (Nat.le_refl _) p i
        intro N
        induction N with
        | zero => intro t h; have := size_pos t; omega
        | succ N ih =>
          intro t hN p i hi hs hg
          rcases i with _ | i
          · exact ⟨_, _, (met_of t t.size p (Nat.le_refl _) hg hs).1⟩
          · obtain ⟨k, s, nm, ks⟩ := t
            have hs' := hs
            unfold Stands ndsT at hs
            simp only [Tr.size, Tr.flat, List.map_cons] at hs hi hN
            have htl : StandsL l ks (p + 1) := by
              have := congrArg (List.drop 1) hs
              unfold StandsL ndsL
              rw [List.drop_take, List.drop_drop, Nat.add_sub_cancel_left] at this
              exact this
            have kl : ∀ (ts : List Tr), sizeL ts ≤ N → GoodL ts → ∀ q j, j < sizeL ts → StandsL l ts q → ∃ f r, metN l f (q + j) = some r := by
              intro ts
              induction ts with
              | nil => intro _ _ q j hj; simp [sizeL] at hj
              | cons t ts iht =>
                intro hn hg q j hj hst
                simp only [sizeL] at hn hj
                unfold StandsL ndsL at hst
                simp only [sizeL, flatL, List.map_append] at hst
                rw [List.take_add] at hst
                have hln : ((l.drop q).take t.size).length = ((t.flat q).map EN.nd).length := by
                  have := congrArg List.length hst
                  simp only [List.length_append, List.length_take, List.length_drop, List.length_map, trFlat_len, trFlatL_len] at this ⊢
                  omega
                obtain ⟨e1, e2⟩ := List.append_inj hst hln
                rw [List.drop_drop] at e2
                by_cases hj2 : j < t.size
                · exact ih t (by omega) q j hj2 e1 hg.1
                · obtain ⟨f, r, hfr⟩ := iht (by omega) hg.2 (q + t.size) (j - t.size) (by omega) e2
                  exact ⟨f, r, by rw [← hfr]; congr 1; omega⟩
            obtain ⟨f, r, hfr⟩ := kl ks (by omega) hg.2 (p + 1) i (by omega) htl
            exact ⟨f, r, by rw [← hfr]; congr 1; omega⟩
      obtain ⟨f, r, hfr⟩ := hsub t 0 i (by omega) g3 g1
      rw [Nat.zero_add] at hfr
      have hin := metN_in l f i r hfr
      have mono : ∀ (f' : Nat), f ≤ f' → metN l f' i = some r := by
        intro f' hf
        have hm : ∀ (a b x : Nat) (q : Nat × Nat), a ≤ b → metN l a x = some q → metN l b x = some q := by
          intro a
          induction a with
          | zero => intro b x q _ h; simp only [metN] at h; cases h
          | succ a iha =>
            intro b x q hb h
            obtain ⟨b, rfl⟩ : ∃ c, b = c + 1 := ⟨b - 1, by omega⟩
            simp only [metN] at h ⊢
            cases hd : l[x]? with
            | none => rw [hd] at h; cases h
            | some d =>
              rw [hd] at h
              simp only at h ⊢
              split at h
              · rename_i hmay
                rw [if_pos hmay]
                obtain ⟨z, hz, rfl⟩ := Option.map_eq_some_iff.1 h
                have hml : ∀ (ks : List Int) (p dp : Nat) (z : Nat × Nat), metL (metN l a) ks p dp = some z → metL (metN l b) ks p dp = some z := by
                  intro ks
                  induction ks with
                  | nil => intro p dp z h; exact h
                  | cons k ks ihk =>
                    intro p dp z h
                    simp only [metL] at h ⊢
                    split at h
                    · rename_i e
                      rw [if_pos e]
                      cases hg : metN l a p with
                      | none => rw [hg] at h; cases h
                      | some w =>
                        rw [hg] at h
                        rw [iha b p w (by omega) hg]
                        exact ihk _ _ _ h
                    · cases h
                rw [hml _ _ _ _ hz]
                rfl
              · cases h
        exact hm f f' i r hf hfr
      have := mono (max f l.length) (by omega)
      rw [met_fuel l (max f l.length) l.length i (by omega) (by omega), h] at this
      cases this
    · rw [if_pos h2]
/-- the sizes and depths told of so far -/
def Tab (l : List ND) (n m : Nat) (SL DL : List Int) : Prop := SL.length = n ∧ DL.length = n ∧ (∀ x, m ≤ x → x < n → ∃ dp sz : Nat, metN l n x = some (dp, x + sz) ∧ SL[x]? = some (sz : Int) ∧ DL[x]? = some (dp : Int)) ∧ ∀ x, x < m → x < n → DL[x]? = some 0
theorem Tab.start (l : List ND) (n : Nat) : Tab l n n (List.replicate n 0) (List.replicate n 0) :=
  ⟨List.length_replicate, List.length_replicate, fun x h1 h2 => by omega, fun x _ h => by rw [List.getElem?_replicate, if_pos h]⟩
/-- a row of numbers -/
abbrev ArI (W : World) (base b n : Nat) (L : List Int) : Prop := Own1 W base 3 1 IsI (.slice (some ⟨b, 0, none⟩) n n) L
theorem zeros_cells (n : Nat) : (madeCells (Value.int .i64 0).cells (n * 1)).toList = List.replicate n (Value.int .i64 0) := by
  have h : (Value.int IntKind.i64 0).cells = #[.int .i64 0] := rfl
  rw [h, Nat.mul_one]
  unfold madeCells
  apply List.ext_getElem
  · simp
  · intro i h1 h2
    simp [Nat.mod_one]
section
variable {W W' : World} {base b n : Nat} {L : List Int}
theorem ArI.new (h : W.ownsRow base 3 1 (.slice (some ⟨b, 0, none⟩) n n) n (madeCells (Value.int .i64 0).cells (n * 1)).toList) : ArI W base b n (List.replicate n 0) := by
  rw [zeros_cells] at h
  refine ⟨_, by rw [List.length_replicate]; exact h, by simp, fun i y hy => ?_⟩
  rw [List.getElem?_replicate] at hy
  split at hy
  · rename_i hi
    injection hy with hy
    subst hy
    unfold IsI
    rw [Nat.mul_one, List.drop_replicate, List.take_replicate, show min 1 (n - i) = 1 by omega]
    rfl
  · cases hy
theorem ArI.len (h : ArI W base b n L) : L.length = n := by
  obtain ⟨a, c, he⟩ := h.form
  injection he with _ he
  exact he.symm
theorem ArI.cell (h : ArI W base b n L) {i : Nat} {z : Int} (hi : L[i]? = some z) : W.cell? ⟨b, i, none⟩ = some (.int .i64 z) := by
  have hl := (List.getElem?_eq_some_iff.1 hi).1
  obtain ⟨g, e, _, _, _, hat⟩ := h.at00 (by omega) (by omega)
  injection e with e
  injection e with e
  subst e
  obtain ⟨x, _, hx, hc⟩ := hat i z hi
  unfold IsI at hx
  subst hx
  have := hc 0 _ rfl
  simpa using this
theorem ArI.froz (h : ArI W base b n L) (hn : 0 < n) (i : Nat) : W.frozen? ⟨b, i, none⟩ = false := by
  obtain ⟨g, e, _, _, hf, _⟩ := h.at00 (by rw [h.len]; exact hn) (by omega)
  injection e with e
  injection e with e
  subst e
  exact hf i
theorem ArI.lt (h : ArI W base b n L) : base ≤ b ∧ b < W.heap.size := h.block b rfl
theorem ArI.set (h : ArI W base b n L) {i : Nat} (hi : i < n) (z : Int) : ArI (W.setCell ⟨b, i, none⟩ (.int .i64 z)) base b n (L.set i z) := by
  have hl := h.len
  obtain ⟨xs, h1, h2⟩ := h
  rw [hl] at h1
  refine ⟨xs.set i (.int .i64 z), by rw [List.length_set, hl]; exact (h1.stored i _).1, ?_⟩
  refine ⟨by rw [List.length_set, List.length_set]; exact h2.1, fun k y hy => ?_⟩
  have hxl : xs.length = n := by rw [h2.1, hl, Nat.mul_one]
  by_cases hk : k = i
  · subst hk
    rw [List.getElem?_set_self (by omega)] at hy
    injection hy with hy
    subst hy
    unfold IsI
    rw [Nat.mul_one, List.drop_eq_getElem_cons (by rw [List.length_set]; omega), List.take_succ_cons, List.take_zero, List.getElem_set_self]
  · rw [List.getElem?_set_ne (fun e => hk e.symm)] at hy
    have := h2.2 k y hy
    have hkl := (List.getElem?_eq_some_iff.1 hy).1
    unfold IsI at this ⊢
    rw [Nat.mul_one] at this ⊢
    rw [List.drop_eq_getElem_cons (by omega), List.take_succ_cons, List.take_zero] at this
    rw [List.drop_eq_getElem_cons (by rw [List.length_set]; omega), List.take_succ_cons, List.take_zero, List.getElem_set_ne (fun e => hk e.symm)]
    exact this
theorem ArI.far (h : ArI W base b n L) {p : Addr} (hp : p.block ≠ b) (u : Value) : ArI (W.setCell p u) base b n L :=
  h.stay (fun g hg _ => Below.heap_setCell W p u g (by
    simp [Value.ownBlock] at hg
    subst hg
    exact fun e => hp e.symm))
theorem ArI.keep (h : ArI W base b n L) (hb : Below W.heap.size W W') : ArI W' base b n L := h.stay (fun g _ hl => hb.block g hl)
end
end Go.Proofs.YtlenenfgedgmhaaDoor
namespace Go.Proofs.YtlenenfgedgmhaaDoor
set_option linter.unusedSimpArgs false
set_option linter.unusedVariables false
open Go.RowKit

set_option maxRecDepth 100000 in
set_option maxHeartbeats 40000000 in
theorem rright {l : List ND} {v : Value} (w w0 : World) (hs : SlR w0 w0.heap.size 4 (ND.Is w0 w0.heap.size) v l) (hok : ∀ d ∈ l, NdOk d) (hw : Below w0.heap.size w0 w) :
    Calls Tryd.prog 19 #[.agg #[v]] w fun e w' => e = .returned (.int .i64 (rightE l : Int)) ∧ Below w.heap.size w w' := by
  obtain ⟨a, c, rfl⟩ : ∃ a c, v = .slice a l.length c := by obtain ⟨a, c, h, _⟩ := hs.form; exact ⟨a, c, h⟩
  have hcap := hs.caps
  have hn63 : l.length ≤ 9223372036854775807 := by unfold maxLen at hcap; omega
  obtain ⟨n, hn⟩ : ∃ n, l.length = n := ⟨_, rfl⟩
  have HN := Lib.hid hn
  have hr1 : 256 < n → rightE l = 4 := fun h => by unfold rightE; rw [hn, if_pos h]
  have hr2 : n = 0 → rightE l = 80 := fun h => by
    have : l = [] := List.eq_nil_of_length_eq_zero (by omega)
    subst this
    rfl
  have hr3 : ∀ i, i < n → n ≤ 256 → metN l n i = none → rightE l = 80 := fun i hi h2 h => right_no (i := i) hok (by omega) (by rw [hn]; exact h) (by omega)
  have hr4 : ∀ dp sz : Nat, n ≤ 256 → metN l n 0 = some (dp, 0 + sz) → rightE l = if sz ≠ n then 80 else if 32 < dp then 4 else 0 := fun dp sz h2 h => by
    unfold rightE
    rw [hn, if_neg (by omega), h]
    simp only [Nat.zero_add]
  rw [hn] at hn63 hcap ⊢
  have HS := Lib.hid hs
  have HW := Lib.hid hw
  have HOK := Lib.hid hok
  have HR3 := Lib.hid hr3
  have HR4 := Lib.hid hr4
  have B0 : Hid (Below w.heap.size w (w.alloc (.cells #[.slice a n c] 24))) := Lib.hid ((Below.refl _ _).alloc (Nat.le_refl _) _)
  have K0 : Hid (Blk (w.alloc (.cells #[.slice a n c] 24)) w.heap.size 24 #[.slice a n c]) := Lib.hid (Blk.new _ _ _)
  obtain ⟨R, hR⟩ : ∃ R, rightE l = R := ⟨_, rfl⟩
  rw [hR] at hr1 hr2 HR3 HR4 ⊢
  have HRR := Lib.hid hR
  clear hs hok hw hn hr3 hr4 hR hcap
  by_cases hbig : 256 < n
  · have d1 : decide ((256 : Int) < (n : Int)) = true := by simp only [decide_eq_true_eq]; omega
    have d2 : decide (256 < n) = true := by simpa using hbig
    have hv := hr1 hbig
    subst hv
    clear hr1 hr2 HRR HR3 HR4 hbig
    go_enter Tryd.func19, Tryd.ntmps19
    go_wp2_with fail
    go_ret
    exact ⟨rfl, B0.out⟩
  have d1 : decide ((256 : Int) < (n : Int)) = false := by simp only [decide_eq_false_iff_not]; omega
  have d2 : decide (256 < n) = false := by simpa using hbig
  by_cases hz : n = 0
  · have hv := hr2 hz
    subst hz hv
    clear hr1 hr2 HRR HR3 HR4 hbig
    go_enter Tryd.func19, Tryd.ntmps19
    go_wp2_with fail
    go_ret
    exact ⟨rfl, B0.out⟩
  have z1 : ((n : Int) == 0) = false := by simp; omega
  have n256 : n ≤ 256 := by omega
  have n6 : (n : Int) ≤ 256 := by omega
  have n0 : (0 : Int) < (n : Int) := by omega
  have np : 0 < n := by omega
  obtain ⟨jI, hi, hzz, hs2, hby⟩ := info_parts info_int
  have II := Lib.hid (And.intro hi (And.intro hzz (And.intro hs2 hby)))
  have tok1 : True := trivial
  have tok2 : True := trivial
  clear hi hzz hs2 hby hr1 hr2 hbig hz HRR
  go_enter Tryd.func19, Tryd.ntmps19
  go_wp2_with (first
    | (at_make
       have _t := tok1
       refine wpList_make_full _ rfl (.tmp 19) (.tmp 19) 44 rfl (w.heap.size + 1) 3 jI _ 1 Tryd.underlying44 II.out.1 II.out.2.1 II.out.2.2.1 .i64 .i64 (n : Int) (n : Int) n rfl rfl rfl rfl (by rw [II.out.2.2.2]; omega) (by unfold maxLen; omega) (by rw [World.size_alloc]; exact Nat.le_refl _) ?_
       intro w1 hown hgr
       have R1 := Lib.hid (ArI.new hown)
       have B1 : Hid (Below w.heap.size w w1) := Lib.hid (B0.out.grown hgr (by rw [World.size_alloc]; omega) (fun g hg => by cases hg))
       have KQ1 := Lib.hid (K0.out.grown hgr (by simp))
       have Z1 : Hid (w.heap.size + 1 < w1.heap.size) := Lib.hid (by have := (ArI.lt R1.out).2; rw [World.size_alloc] at this; exact this)
       have e1 : w1.cell? ⟨w.heap.size, 0, none⟩ = some (.slice a n c) := KQ1.out.cell (i := 0) rfl
       have l1 := KQ1.out.lt
       clear hown hgr tok1 _t)
    | (at_make
       have _t := tok2
       refine wpList_make_full _ rfl (.tmp 23) (.tmp 23) 44 rfl (w.heap.size + 1) 3 jI _ 1 Tryd.underlying44 II.out.1 II.out.2.1 II.out.2.2.1 .i64 .i64 (n : Int) (n : Int) n rfl rfl rfl rfl (by rw [II.out.2.2.2]; omega) (by unfold maxLen; omega) (by have := Z1.out; omega) ?_
       intro w2 hown hgr
       have R2 := Lib.hid (ArI.new hown)
       have B2 : Hid (Below w.heap.size w w2) := Lib.hid (B1.out.grown hgr B1.out.size (fun g hg => by cases hg))
       have KQ2 := Lib.hid (KQ1.out.grown hgr (by simp))
       have R12 : Hid (ArI w2 (w.heap.size + 1) (w.heap.size + 1) n (List.replicate n 0)) := Lib.hid (by have := R1.out; rw [World.size_alloc] at this; exact this.stay (fun b _ hl => hgr.block b hl (by simp)))
       have e2 : w2.cell? ⟨w.heap.size, 0, none⟩ = some (.slice a n c) := KQ2.out.cell (i := 0) rfl
       have l2 := KQ2.out.lt
       clear hown hgr tok2 _t))
  have L1 : Hid (w.heap.size + 1 < w1.heap.size) := Z1
  have TB0 := Lib.hid (Tab.start l n)
  clear e1 e2 l1 l2
  go_loopw [2, 5, 6, 7, 8] (fun _ iv _ _ _ wr => ∃ (m : Nat) (SL DL : List Int), m ≤ n ∧ iv = .int .i64 ((m : Int) - 1) ∧ Hid (Tab l n m SL DL) ∧ Hid (ArI wr (w.heap.size + 1) (w.heap.size + 1) n SL) ∧ Hid (ArI wr (w.heap.size + 1) w1.heap.size n DL) ∧ Hid (Blk wr w.heap.size 24 #[.slice a n c]) ∧ Hid (Below w.heap.size w wr)) (fun _ iv _ _ _ _ => ((intOf iv) + 1).toNat)
  case atStart => exact ⟨n, _, _, Nat.le_refl _, by go_num, TB0, R12, R2, KQ2, B2⟩
  case round =>
    obtain ⟨m, SL, DL, hm, rfl, HT, HSb, HDb, KQw, HBw⟩ := hrel
    clear R12 R2 KQ2 B2 KQ1 B1 R1
    obtain ⟨wo, hwo⟩ : ∃ W, W = wr := ⟨wr, rfl⟩
    subst hwo
    have q0 : wo.cell? ⟨w.heap.size, 0, none⟩ = some (.slice a n c) := KQw.out.cell (i := 0) rfl
    have lq := KQw.out.lt
    by_cases hlt : 0 < m
    · obtain ⟨i, rfl⟩ : ∃ i, m = i + 1 := ⟨m - 1, by omega⟩
      have hie : ((i + 1 : Nat) : Int) - 1 = (i : Int) := by omega
      rw [hie]
      have i0 : (0 : Int) ≤ (i : Int) := Int.natCast_nonneg _
      have di : decide ((0 : Int) ≤ (i : Int)) = true := by simp
      have ilt : i < n := by omega
      have iln : (i : Int) < (n : Int) := by omega
      obtain ⟨d, hd⟩ := get_some HN.out ilt
      have hwr : Below w0.heap.size w0 wo := HW.out.trans (HBw.out.mono HW.out.size)
      obtain ⟨bN, off, x, rfl, hbN, _, ⟨kv, rfl, hks⟩, hx⟩ := (HS.out.below hwr).at_ hd
      obtain ⟨ka, kc, rfl, _⟩ := hks.form
      obtain ⟨kn, hkn⟩ : ∃ z, d.kids.length = z := ⟨_, rfl⟩
      rw [hkn] at hks hx
      have hkc := hks.caps
      have kn63 : kn ≤ 9223372036854775807 := by unfold maxLen at hkc; omega
      have x0 : wo.cell? ⟨bN, off + i * 4, none⟩ = some (.int .i64 d.kind) := hx 0 _ rfl
      have x1 : wo.cell? ⟨bN, off + i * 4 + 1, none⟩ = some (.string (txt d.text)) := hx 1 _ rfl
      have x2 : wo.cell? ⟨bN, off + i * 4 + 2, none⟩ = some (.int .i64 d.num) := hx 2 _ rfl
      have x3 : wo.cell? ⟨bN, off + i * 4 + 3, none⟩ = some (.slice ka kn kc) := hx 3 _ rfl
      have w0le := hwr.size
      have HKS := Lib.hid hks
      have HWR := Lib.hid hwr
      have HKN := Lib.hid hkn
      have HD := Lib.hid hd
      have hstep := met_step HN.out hd
      have hnd := HOK.out d (List.mem_iff_getElem?.2 ⟨i, hd⟩)
      have lbN : bN < wo.heap.size := by omega
      have BG : Hid (Below wo.heap.size wo (wo.alloc (.cells #[.int .i64 d.kind, .string (txt d.text), .int .i64 d.num, .slice ka kn kc] 46))) := Lib.hid ((Below.refl _ _).alloc (Nat.le_refl _) _)
      have G3 : Hid (Blk (wo.alloc (.cells #[.int .i64 d.kind, .string (txt d.text), .int .i64 d.num, .slice ka kn kc] 46)) wo.heap.size 46 #[.int .i64 d.kind, .string (txt d.text), .int .i64 d.num, .slice ka kn kc]) := Lib.hid (Blk.new _ _ _)
      have MAYC : Hid (∀ W, Calls Tryd.prog 36 #[.agg #[.int .i64 d.kind, .string (txt d.text), .int .i64 d.num, .slice ka kn kc]] W fun e w' => e = .returned (.bool (mayE d)) ∧ Below W.heap.size W w') := Lib.hid (fun W => by
        have := r_may d.kind d.text d.num d.kids ka kn kc HKN.out.symm kn63 hnd.1 hnd.2.1 W
        exact this)
      have HST := Lib.hid hstep
      clear hd hks hx hwr hkn hbN hkc hstep hnd hie
      obtain ⟨mb, hmb⟩ : ∃ b, mayE d = b := ⟨_, rfl⟩
      rw [hmb] at MAYC HST
      clear hmb
      cases mb with
      | false =>
        have hv : (80 : Nat) = R := (HR3.out i ilt n256 (by have := HST.out; rw [if_neg (by simp)] at this; exact this)).symm
        have HV := Lib.hid hv
        clear hv
        go_wp2_with (first
          | (go_at_call 36
             go_must (refine (MAYC.out _).mono ?_)
             go_must (rintro e w4 ⟨rfl, b4⟩)
             have B4 : Hid (Below wo.heap.size wo w4) := Lib.hid (BG.out.trans (b4.mono BG.out.size))
             have G4 := Lib.hid (G3.out.below b4 G3.out.lt)
             have q3 : w4.cell? ⟨wo.heap.size, 3, none⟩ = some (.slice ka kn kc) := G4.out.cell (i := 3) rfl
             have lg4 := G4.out.lt
             have KQ4 := Lib.hid (KQw.out.below B4.out KQw.out.lt)
             have e4 : w4.cell? ⟨w.heap.size, 0, none⟩ = some (.slice (some ⟨bN, off, none⟩) n c) := KQ4.out.cell (i := 0) rfl
             have lq4 := KQ4.out.lt
             have S4 := Lib.hid (ArI.keep HSb.out B4.out)
             have D4 := Lib.hid (ArI.keep HDb.out B4.out)
             clear b4))
        go_ret
        exact ⟨by rw [← HV.out]; rfl, HBw.out.trans (B4.out.mono HBw.out.size)⟩
      | true =>
        have hst : metN l n i = (metL (metN l n) d.kids (i + 1) 0).map fun r => (r.1 + 1, r.2) := by have := HST.out; rw [if_pos rfl] at this; exact this
        have HST2 := Lib.hid hst
        have HT2 := HT
        clear hst HST
        go_wp2_with (first
          | (go_at_call 36
             go_must (refine (MAYC.out _).mono ?_)
             go_must (rintro e w4 ⟨rfl, b4⟩)
             have B4 : Hid (Below wo.heap.size wo w4) := Lib.hid (BG.out.trans (b4.mono BG.out.size))
             have G4 := Lib.hid (G3.out.below b4 G3.out.lt)
             have q3 : w4.cell? ⟨wo.heap.size, 3, none⟩ = some (.slice ka kn kc) := G4.out.cell (i := 3) rfl
             have lg4 := G4.out.lt
             have KQ4 := Lib.hid (KQw.out.below B4.out KQw.out.lt)
             have e4 : w4.cell? ⟨w.heap.size, 0, none⟩ = some (.slice (some ⟨bN, off, none⟩) n c) := KQ4.out.cell (i := 0) rfl
             have lq4 := KQ4.out.lt
             have S4 := Lib.hid (ArI.keep HSb.out B4.out)
             have D4 := Lib.hid (ArI.keep HDb.out B4.out)
             clear b4))
        clear x0 x1 x2 x3 q0
        have HM0 : Hid (metL (metN l n) d.kids (i + 1) 0 = metL (metN l n) (d.kids.drop 0) (i + 1) 0) := Lib.hid rfl
        have D40 : Hid (ArI w4 (w.heap.size + 1) w1.heap.size n (DL.set i ((0 : Nat) : Int))) := Lib.hid (by
          have hl := HT2.out.2.1
          have h0 := HT2.out.2.2.2 i (by omega) ilt
          have e : DL.set i ((0 : Nat) : Int) = DL := by
            apply List.ext_getElem?
            intro j
            rw [List.getElem?_set]
            split
            · rename_i e; subst e; rw [if_pos (by omega), h0]; rfl
            · rfl
          rw [e]
          exact D4.out)
        have LG4 := Lib.hid lg4
        have GB : Hid (w1.heap.size < wo.heap.size) := Lib.hid (ArI.lt HDb.out).2
        clear q3 e4 D4
        go_hide hQ
        go_loopw [2, 7, 8] (fun _ nv kv wr => ∃ (k e dp : Nat), k ≤ kn ∧ kv = .int .i64 (k : Int) ∧ nv = .int .i64 (e : Int) ∧ i + 1 ≤ e ∧ e ≤ n ∧ dp ≤ n ∧ Hid (metL (metN l n) d.kids (i + 1) 0 = metL (metN l n) (d.kids.drop k) e dp) ∧ Hid (ArI wr (w.heap.size + 1) w1.heap.size n (DL.set i (dp : Int))) ∧ Hid (ArI wr (w.heap.size + 1) (w.heap.size + 1) n SL) ∧ Hid (Blk wr wo.heap.size 46 #[.int .i64 d.kind, .string (txt d.text), .int .i64 d.num, .slice ka kn kc]) ∧ Hid (Blk wr w.heap.size 24 #[.slice (some ⟨bN, off, none⟩) n c]) ∧ Hid (Below w.heap.size w wr)) (fun _ _ kv _ => kn - (intOf kv).toNat)
        case atStart => exact ⟨0, i + 1, 0, Nat.zero_le _, rfl, by go_num, Nat.le_refl _, by omega, by omega, HM0, D40, S4, G4, KQ4, Lib.hid (HBw.out.trans (B4.out.mono HBw.out.size))⟩
        case round =>
          obtain ⟨k, e, dp, hk, rfl, rfl, he1, hen, hdp, HM, HDr, HSr, HGr, HQr, HBr⟩ := hrel
          clear S4 G4 KQ4 B4 D40
          obtain ⟨wi, hwi⟩ : ∃ W, W = wr := ⟨wr, rfl⟩
          subst hwi
          have k0 : (0 : Int) ≤ (k : Int) := Int.natCast_nonneg _
          have e0 : (0 : Int) ≤ (e : Int) := Int.natCast_nonneg _
          have e6 : (e : Int) ≤ 256 := by omega
          have p3 : wi.cell? ⟨wo.heap.size, 3, none⟩ = some (.slice ka kn kc) := HGr.out.cell (i := 3) rfl
          have pq : wi.cell? ⟨w.heap.size, 0, none⟩ = some (.slice (some ⟨bN, off, none⟩) n c) := HQr.out.cell (i := 0) rfl
          have lg := HGr.out.lt
          have lqi := HQr.out.lt
          by_cases hkl : k < kn
          · obtain ⟨kk, hkk⟩ := get_some HKN.out hkl
            have hw2 : Below w0.heap.size w0 wi := HW.out.trans (HBr.out.mono HW.out.size)
            obtain ⟨bK, offK, xk, rfl, hbK, _, hxk, hck⟩ := (HKS.out.below hw2).at_ hkk
            have hxk : xk = [.int .i64 kk] := hxk
            subst hxk
            have kc0 := hck 0 _ rfl
            simp only [Nat.mul_one, Nat.add_zero] at kc0
            have lbK : bK < wi.heap.size := by have := hw2.size; omega
            have hdr : d.kids.drop k = kk :: d.kids.drop (k + 1) := by
              obtain ⟨h1, h2⟩ := List.getElem?_eq_some_iff.1 hkk
              rw [List.drop_eq_getElem_cons h1, h2]
            have hm2 := HM.out
            rw [hdr] at hm2
            simp only [metL] at hm2
            clear hkk hw2 hck hbK hdr
            by_cases hke : kk = (e : Int)
            rotate_left
            · have t1 : (kk != (e : Int)) = true := by simpa using hke
              rw [if_neg hke] at hm2
              have hv : (80 : Nat) = R := (HR3.out i ilt n256 (by rw [HST2.out, hm2]; rfl)).symm
              have HV := Lib.hid hv
              clear hv hm2 hke
              subst hQ
              go_wp2_with fail
              go_ret
              exact ⟨by rw [← HV.out]; rfl, HBr.out⟩
            rw [if_pos hke] at hm2
            subst hke
            have t1 : ((e : Int) != (e : Int)) = false := by simp
            by_cases hee : n ≤ e
            · have t2 : decide ((n : Int) ≤ (e : Int)) = true := by simp only [decide_eq_true_eq]; omega
              have t3 : decide (n ≤ e) = true := by simpa using hee
              have hmn : metN l n e = none := by
                cases n with
                | zero => rfl
                | succ n => rw [metN, List.getElem?_eq_none (by rw [HN.out]; omega)]
              rw [hmn] at hm2
              have hv : (80 : Nat) = R := (HR3.out i ilt n256 (by rw [HST2.out, hm2]; rfl)).symm
              have HV := Lib.hid hv
              clear hv hm2 hee hmn
              subst hQ
              go_wp2_with fail
              go_ret
              exact ⟨by rw [← HV.out]; rfl, HBr.out⟩
            have t2 : decide ((n : Int) ≤ (e : Int)) = false := by simp only [decide_eq_false_iff_not]; omega
            have t3 : decide (n ≤ e) = false := by simpa using hee
            obtain ⟨dq, sz, hmq, hsq, hdq⟩ := HT.out.2.2.1 e he1 (by omega)
            rw [hmq] at hm2
            simp only at hm2
            have hin := metN_in l n e _ hmq
            simp only [HN.out] at hin
            have c1 := ArI.cell HDr.out (i := i) (z := (dp : Int)) (by rw [List.getElem?_set_self (by rw [HT.out.2.1]; exact ilt)])
            have c2 := ArI.cell HDr.out (i := e) (z := (dq : Int)) (by rw [List.getElem?_set_ne (by omega)]; exact hdq)
            have c3 := ArI.cell HSr.out hsq
            have fz := ArI.froz HDr.out np i
            have lD := (ArI.lt HDr.out).2
            have lS := (ArI.lt HSr.out).2
            have een : (e : Int) < (n : Int) := by omega
            have enn : e < n := by omega
            have dp6 : (dp : Int) ≤ 256 := by omega
            have dq6 : (dq : Int) ≤ 256 := by omega
            have sz6 : (e : Int) + (sz : Int) ≤ 256 := by omega
            have sz0 : (0 : Int) ≤ (sz : Int) := Int.natCast_nonneg _
            have dp0 : (0 : Int) ≤ (dp : Int) := Int.natCast_nonneg _
            have dq0 : (0 : Int) ≤ (dq : Int) := Int.natCast_nonneg _
            have iee : i ≠ e := by omega
            have eei : e ≠ i := by omega
            have bne : w1.heap.size ≠ w.heap.size + 1 := by have := L1.out; omega
            have bne2 : w.heap.size + 1 ≠ w1.heap.size := by have := L1.out; omega
            have HM2 := Lib.hid hm2
            have he2 : e + sz ≤ n := by omega
            have hd2 : max dp dq ≤ n := by omega
            have he3 : i + 1 ≤ e + sz := by omega
            clear hm2 hmq hsq hdq hin hee
            go_wp2_with fail
            go_still_tail 12, (by kernel_rfl)
            change wpList _ _ _ _ _ wi.drew
            go_wp2_with fail
            go_roundw
            case rel =>
              refine ⟨k + 1, e + sz, max dp dq, by omega, by go_num, by go_num, he3, he2, hd2, HM2, Lib.hid ?_, Lib.hid ?_, Lib.hid ?_, Lib.hid ?_, Lib.hid ?_⟩
              · have ee : ((max dp dq : Nat) : Int) = max (dp : Int) (dq : Int) := by omega
                have h1 := (ArI.set HDr.out ilt (max (dp : Int) (dq : Int))).drew
                rw [List.set_set] at h1
                rw [ee]
                exact h1
              · exact (ArI.far HSr.out (p := ⟨w1.heap.size, i, none⟩) bne _).drew
              · exact HGr.out.far (p := ⟨w1.heap.size, i, none⟩) (Nat.ne_of_gt GB.out) _
              · exact HQr.out.far (p := ⟨w1.heap.size, i, none⟩) (by have := L1.out; show w.heap.size ≠ w1.heap.size; omega) _
              · exact (HBr.out.setCell (p := ⟨w1.heap.size, i, none⟩) (by have := L1.out; show w.heap.size ≤ w1.heap.size; omega) _).drew
            case measure => simp [intOf]; omega
          · obtain rfl : k = kn := by omega
            have djj : decide (k < k) = false := by simp
            have hfin : metN l n i = some (dp + 1, e) := by
              rw [HST2.out, HM.out, List.drop_of_length_le (by rw [HKN.out]; exact Nat.le_refl _)]
              rfl
            have hin := metN_in l n i _ hfin
            simp only [HN.out] at hin
            have HFIN := Lib.hid hfin
            have c1 := ArI.cell HDr.out (i := i) (z := (dp : Int)) (by rw [List.getElem?_set_self (by rw [HT.out.2.1]; exact ilt)])
            have hS0 : ∃ z, SL[i]? = some z := get_some HT.out.1 ilt
            obtain ⟨s0, hs0⟩ := hS0
            have c3 := ArI.cell HSr.out hs0
            have fz := ArI.froz HDr.out np i
            have fs := ArI.froz HSr.out np i
            have lD := (ArI.lt HDr.out).2
            have lS := (ArI.lt HSr.out).2
            have dp6 : (dp : Int) ≤ 256 := by omega
            have dp0 : (0 : Int) ≤ (dp : Int) := Int.natCast_nonneg _
            have bne : w1.heap.size ≠ w.heap.size + 1 := by have := L1.out; omega
            have bne2 : w.heap.size + 1 ≠ w1.heap.size := by have := L1.out; omega
            have ei : (i : Int) + 1 ≤ (e : Int) := by omega
            clear hfin hin hs0 hkl
            subst hQ
            go_wp2_with fail
            go_roundw
            case rel =>
              refine ⟨i, SL.set i ((e - i : Nat) : Int), (DL.set i (dp : Int)).set i ((dp + 1 : Nat) : Int), by omega, by go_num, Lib.hid ?_, Lib.hid ?_, Lib.hid ?_, Lib.hid ?_, Lib.hid ?_⟩
              · obtain ⟨t1, t2, t3, t4⟩ := HT.out
                refine ⟨by rw [List.length_set, t1], by rw [List.length_set, List.length_set, t2], fun x h1 h2 => ?_, fun x h1 h2 => ?_⟩
                · by_cases hx : x = i
                  · subst hx
                    exact ⟨dp + 1, e - x, by rw [HFIN.out]; congr 2; omega, by rw [List.getElem?_set_self (by omega)], by rw [List.getElem?_set_self (by rw [List.length_set]; omega)]⟩
                  · obtain ⟨a1, a2, a3, a4, a5⟩ := t3 x (by omega) h2
                    exact ⟨a1, a2, a3, by rw [List.getElem?_set_ne (by omega)]; exact a4, by rw [List.getElem?_set_ne (by omega), List.getElem?_set_ne (by omega)]; exact a5⟩
                · rw [List.getElem?_set_ne (by omega), List.getElem?_set_ne (by omega)]
                  exact t4 x (by omega) h2
              · have ee : ((e - i : Nat) : Int) = (e : Int) - (i : Int) := by omega
                rw [ee]
                exact ArI.far (ArI.set HSr.out ilt ((e : Int) - (i : Int))) (p := ⟨w1.heap.size, i, none⟩) bne _
              · exact ArI.set (ArI.far HDr.out (p := ⟨w.heap.size + 1, i, none⟩) bne2 _) ilt ((dp : Int) + 1)
              · exact (HQr.out.far (p := ⟨w.heap.size + 1, i, none⟩) (by show w.heap.size ≠ w.heap.size + 1; omega) _).far (p := ⟨w1.heap.size, i, none⟩) (by have := L1.out; show w.heap.size ≠ w1.heap.size; omega) _
              · exact (HBr.out.setCell (p := ⟨w.heap.size + 1, i, none⟩) (Nat.le_succ _) _).setCell (p := ⟨w1.heap.size, i, none⟩) (by have := L1.out; show w.heap.size ≤ w1.heap.size; omega) _
            case measure => simp [intOf] <;> omega
    · obtain rfl : m = 0 := by omega
      have hie : ((0 : Nat) : Int) - 1 = -1 := rfl
      rw [hie]
      have di : decide ((0 : Int) ≤ -1) = false := by decide
      obtain ⟨dp, sz, hmet, hs1, hd1⟩ := HT.out.2.2.1 0 (Nat.le_refl _) np
      have hv := HR4.out dp sz n256 hmet
      have hin := metN_in l n 0 _ hmet
      simp only [HN.out] at hin
      have c1 := ArI.cell HDb.out hd1
      have c3 := ArI.cell HSb.out hs1
      have lD := (ArI.lt HDb.out).2
      have lS := (ArI.lt HSb.out).2
      have n64 : (0 : Int) < (n : Int) := by omega
      have HV := Lib.hid hv
      clear hmet hs1 hd1 hv hin hlt hie
      by_cases hsz : sz = n
      · have t1 : ((sz : Int) != (n : Int)) = false := by simp; omega
        by_cases hdp : 32 < dp
        · have t2 : decide ((32 : Int) < (dp : Int)) = true := by simp only [decide_eq_true_eq]; omega
          have t3 : decide (32 < dp) = true := by simpa using hdp
          have hR : R = 4 := by rw [HV.out, if_neg (fun h => h hsz), if_pos hdp]
          have HRR := Lib.hid hR
          clear hsz hdp hR
          go_wp2_with fail
          go_region
          go_wp2_with fail
          go_ret
          exact ⟨by rw [HRR.out]; rfl, HBw.out.drew⟩
        · have t2 : decide ((32 : Int) < (dp : Int)) = false := by simp only [decide_eq_false_iff_not]; omega
          have t3 : decide (32 < dp) = false := by simpa using hdp
          have hR : R = 0 := by rw [HV.out, if_neg (fun h => h hsz), if_neg hdp]
          have HRR := Lib.hid hR
          clear hsz hdp hR
          go_wp2_with fail
          go_region
          go_wp2_with fail
          go_ret
          exact ⟨by rw [HRR.out]; rfl, HBw.out.drew⟩
      · have t1 : ((sz : Int) != (n : Int)) = true := by simp; omega
        have hR : R = 80 := by rw [HV.out, if_pos hsz]
        have HRR := Lib.hid hR
        clear hsz hR
        go_wp2_with fail
        go_region
        go_wp2_with fail
        go_ret
        exact ⟨by rw [HRR.out]; rfl, HBw.out.drew⟩

end Go.Proofs.YtlenenfgedgmhaaDoor
