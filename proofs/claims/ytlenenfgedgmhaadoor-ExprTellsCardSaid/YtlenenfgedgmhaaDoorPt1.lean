/- expr.Part: the tree below a node. -/
import Derived.Test.YtlenenfgedgmhaaDoorPt0
import Derived.Test.YtlenenfgedgmhaaDoorRg2
import Derived.Test.YtlenenfgedgmhaaDoorMParse
namespace Go.Proofs.YtlenenfgedgmhaaDoor
set_option linter.unusedSimpArgs false
set_option linter.unusedVariables false
open Go.RowKit

section
variable {X X' : World} {B : Nat} {v v' : Value} {es : List (EN × Value)}
/-- what is not written stays -/
theorem EL.below (h : EL X B v es) (hb : Below X.heap.size X X') : EL X' B v es :=
  ⟨h.main.stay (fun b _ hl => hb.block b hl), fun i p hp => (h.kids i p hp).stay (fun b _ hl => hb.block b hl), h.apart⟩
theorem EL.setLow (h : EL X B v es) {p : Addr} (hp : p.block < B) (u : Value) : EL (X.setCell p u) B v es :=
  ⟨h.main.setFar hp u, fun i q hq => (h.kids i q hq).setFar hp u, h.apart⟩
/-- a node more, with a row of its own -/
theorem EL.push2 (h : EL X B v es) {e : EN} {kv : Value} (hk : Own1 X B 3 1 IsNat kv e.kids) (hap : ∀ (i : Nat) (p : EN × Value) (b : Nat), es[i]? = some p → p.2.ownBlock = some b → kv.ownBlock ≠ some b) (hm : Own1 X' B 46 4 IsEN v' (es ++ [(e, kv)])) (hg : X.grownBy X' v.ownBlock) : EL X' B v' (es ++ [(e, kv)]) := by
  have key : ∀ (i : Nat) (p : EN × Value), (es ++ [(e, kv)])[i]? = some p → (i < es.length ∧ es[i]? = some p) ∨ (i = es.length ∧ p = (e, kv)) := by
    intro i p hp
    rcases Nat.lt_or_ge i es.length with hl | hl
    · rw [List.getElem?_append_left hl] at hp; exact .inl ⟨hl, hp⟩
    · rw [List.getElem?_append_right hl] at hp
      have h0 : i - es.length = 0 := by
        rcases Nat.eq_zero_or_pos (i - es.length) with h0 | h0
        · exact h0
        · rw [List.getElem?_eq_none (by simp; omega)] at hp; cases hp
      rw [h0] at hp
      simp at hp
      exact .inr ⟨by omega, hp.symm⟩
  refine ⟨hm, fun i p hp => ?_, fun i j p p' b hij hi hj hb => ?_⟩
  · rcases key i p hp with ⟨_, h1⟩ | ⟨_, rfl⟩
    · exact (h.kids i p h1).kept1 h.main (by decide) hg
    · exact hk.kept1 h.main (by decide) hg
  · rcases key i p hi with ⟨_, h1⟩ | ⟨e1, rfl⟩
    · rcases key j p' hj with ⟨_, h2⟩ | ⟨_, rfl⟩
      · exact h.apart i j p p' b hij h1 h2 hb
      · exact hap i p b h1 hb
    · rcases key j p' hj with ⟨_, h2⟩ | ⟨e2, rfl⟩
      · intro e'
        exact hap j p' b h2 e' hb
      · omega
end
theorem nd_kids {d : EN} : d.nd.kids = d.kids.map (fun n : Nat => (n : Int)) := rfl
/-- what Part comes to -/
def PartIs (w : World) (es : List EN) (c : Nat) (e : Ending) (w' : World) : Prop :=
  ∃ v, e = .returned (.tuple #[.agg #[v], .int .i64 (c : Int)]) ∧ SlR w' w'.heap.size 4 (ENode.Is w' w'.heap.size) v es ∧ Below w.heap.size w w'
/-- what Part comes to, with rows of the call's own -/
def PartO (w : World) (es : List EN) (c : Nat) (e : Ending) (w' : World) : Prop :=
  ∃ v ps, e = .returned (.tuple #[.agg #[v], .int .i64 (c : Int)]) ∧ EL w' w.heap.size v ps ∧ ps.map (·.1) = es ∧ Below w.heap.size w w'
theorem PartO.is {w w' : World} {es : List EN} {c : Nat} {e : Ending} (h : PartO w es c e w') : PartIs w es c e w' := by
  obtain ⟨v, ps, rfl, h1, h2, h3⟩ := h
  exact ⟨v, rfl, h2 ▸ h1.read, h3⟩
theorem EL.mono {X : World} {B B' : Nat} {v : Value} {es : List (EN × Value)} (h : EL X B v es) (hb : B' ≤ B) : EL X B' v es :=
  ⟨h.main.mono hb, fun i p hp => (h.kids i p hp).mono hb, h.apart⟩
theorem ENode.moved {w : World} {B : Nat} {x : List Value} {d : EN} (h : ENode.Is w B x d) {w' : World} {B' : Nat} (hb : Below B w w') (hB : B ≤ B') : ENode.Is w' B' x d := by
  obtain ⟨kv, h1, h2⟩ := h
  exact ⟨kv, h1, (h2.below hb).more hB⟩
theorem enRead {X Y : World} {v : Value} {l : List EN} (h : SlR X X.heap.size 4 (ENode.Is X X.heap.size) v l) (hb : Below X.heap.size X Y) : SlR Y Y.heap.size 4 (ENode.Is Y Y.heap.size) v l :=
  ((h.below hb).more hb.size).imp (fun x y h => ENode.moved h hb hb.size)

set_option maxRecDepth 100000 in
set_option maxHeartbeats 8000000 in
/-- no expression, or no node of it -/
theorem part_none {l : List ND} {v : Value} (w w0 : World) (hs : SlR w0 w0.heap.size 4 (ND.Is w0 w0.heap.size) v l) (hok : ∀ d ∈ l, NdOk d) (hm : Marks w0) (hp : Pow w0) (hw : Below w0.heap.size w0 w) (at_ : Int) (r : Nat) (hr : (rightE l ≠ 0 ∧ r = rightE l) ∨ (rightE l = 0 ∧ (at_ < 0 ∨ (l.length : Int) ≤ at_) ∧ r = 2)) :
    Calls Tryd.prog 16 #[.agg #[v], .int .i64 at_] w (PartO w [] r) := by
  obtain ⟨a, c, rfl⟩ : ∃ a c, v = .slice a l.length c := by obtain ⟨a, c, h, _⟩ := hs.form; exact ⟨a, c, h⟩
  have hn63 : l.length ≤ 9223372036854775807 := by have := hs.caps; unfold maxLen at this; omega
  have RT := Lib.hid (fun Y (hY : Below w.heap.size w Y) => right_e Y w0 hs hok hm hp (hw.trans (hY.mono hw.size)))
  have B0 : Hid (Below w.heap.size w ((w.alloc (.cells #[.slice a l.length c] 24)).alloc (.cells #[.slice none 0 0] 24))) := Lib.hid (((Below.refl _ _).alloc (Nat.le_refl _) _).alloc (by rw [World.size_alloc]; omega) _)
  have K0 : Hid (Blk ((w.alloc (.cells #[.slice a l.length c] 24)).alloc (.cells #[.slice none 0 0] 24)) w.heap.size 24 #[.slice a l.length c]) := Lib.hid ((Blk.new _ _ _).alloc _)
  have R0 : Hid (Blk ((w.alloc (.cells #[.slice a l.length c] 24)).alloc (.cells #[.slice none 0 0] 24)) (w.heap.size + 1) 24 #[.slice none 0 0]) := Lib.hid (Blk.new_ (by rw [World.size_alloc]) _ _)
  obtain ⟨rc, hrc⟩ : ∃ z, rightE l = z := ⟨_, rfl⟩
  rw [hrc] at RT hr
  obtain ⟨n, hn⟩ : ∃ n, l.length = n := ⟨_, rfl⟩
  rw [hn] at hn63 B0 K0 R0 RT hr ⊢
  clear hs hok hm hp hw hrc hn
  have fin : ∀ (w9 : World) (rr : Nat), Below w.heap.size w w9 → PartO w [] rr (.returned (.tuple #[.agg #[.slice none 0 0], .int .i64 (rr : Int)])) w9 := fun w9 rr h => ⟨_, [], rfl, EL.nil _ _, rfl, h⟩
  rcases hr with ⟨hne, rfl⟩ | ⟨h0, hat, rfl⟩
  · have e1 : ((r : Int) != 0) = true := by simpa using hne
    clear hne
    go_enter Tryd.func16, Tryd.ntmps16
    go_wp2_with (first
      | (go_at_call 18; refine (RT.out _ B0.out).mono ?_; rintro e w1 ⟨rfl, b1⟩; have B1 := Lib.hid (B0.out.trans (b1.mono B0.out.size)); have KQ := Lib.hid (K0.out.below b1 K0.out.lt); have KR := Lib.hid (R0.out.below b1 R0.out.lt); have c1 : w1.cell? ⟨w.heap.size, 0, none⟩ = some (.slice a n c) := KQ.out.cell rfl; have r1 : w1.cell? ⟨w.heap.size + 1, 0, none⟩ = some (.slice none 0 0) := KR.out.cell rfl; have z1 := KR.out.frozen 0; have l1 := KR.out.lt; have l0 := KQ.out.lt; clear b1))
    have key : ∀ W : World, W.cell? ⟨w.heap.size + 1, 0, none⟩ = some (.slice none 0 0) → True := fun _ _ => trivial
    generalize hW9 : World.setCell w1 _ _ = W9
    have r9 : W9.cell? ⟨w.heap.size + 1, 0, none⟩ = some (.slice none 0 0) := by rw [← hW9]; exact (KR.out.set_ 0 _).cell rfl
    have b9 : Below w.heap.size w W9 := by rw [← hW9]; exact B1.out.setCell (p := ⟨w.heap.size + 1, 0, none⟩) (Nat.le_succ _) _
    refine bodyPost_ret (v := .tuple #[.agg #[.slice none 0 0], .int .i64 (r : Int)]) (by simp [results, Tryd.results16, go_sem, r9]) rfl ?_
    exact fin _ _ b9
  · subst h0
    have fin2 := fun w9 h => fin w9 2 h
    clear fin
    by_cases h1 : at_ < 0
    · have d1 : decide (at_ < 0) = true := by simpa using h1
      clear hat h1
      go_enter Tryd.func16, Tryd.ntmps16
      go_wp2_with (first
        | (go_at_call 18; refine (RT.out _ B0.out).mono ?_; rintro e w1 ⟨rfl, b1⟩; have B1 := Lib.hid (B0.out.trans (b1.mono B0.out.size)); have KQ := Lib.hid (K0.out.below b1 K0.out.lt); have KR := Lib.hid (R0.out.below b1 R0.out.lt); have c1 : w1.cell? ⟨w.heap.size, 0, none⟩ = some (.slice a n c) := KQ.out.cell rfl; have r1 : w1.cell? ⟨w.heap.size + 1, 0, none⟩ = some (.slice none 0 0) := KR.out.cell rfl; have z1 := KR.out.frozen 0; have l1 := KR.out.lt; have l0 := KQ.out.lt; clear b1))
      generalize hW9 : World.setCell w1 _ _ = W9
      have r9 : W9.cell? ⟨w.heap.size + 1, 0, none⟩ = some (.slice none 0 0) := by rw [← hW9]; exact (KR.out.set_ 0 _).cell rfl
      have b9 : Below w.heap.size w W9 := by rw [← hW9]; exact B1.out.setCell (p := ⟨w.heap.size + 1, 0, none⟩) (Nat.le_succ _) _
      refine bodyPost_ret (v := .tuple #[.agg #[.slice none 0 0], .int .i64 2]) (by simp [results, Tryd.results16, go_sem, r9]) rfl ?_
      exact fin2 _ b9
    · have h2 : (n : Int) ≤ at_ := by omega
      have d1 : decide (at_ < 0) = false := by simpa using h1
      have d2 : decide ((n : Int) ≤ at_) = true := by simpa using h2
      clear hat h1 h2
      go_enter Tryd.func16, Tryd.ntmps16
      go_wp2_with (first
        | (go_at_call 18; refine (RT.out _ B0.out).mono ?_; rintro e w1 ⟨rfl, b1⟩; have B1 := Lib.hid (B0.out.trans (b1.mono B0.out.size)); have KQ := Lib.hid (K0.out.below b1 K0.out.lt); have KR := Lib.hid (R0.out.below b1 R0.out.lt); have c1 : w1.cell? ⟨w.heap.size, 0, none⟩ = some (.slice a n c) := KQ.out.cell rfl; have r1 : w1.cell? ⟨w.heap.size + 1, 0, none⟩ = some (.slice none 0 0) := KR.out.cell rfl; have z1 := KR.out.frozen 0; have l1 := KR.out.lt; have l0 := KQ.out.lt; clear b1))
      generalize hW9 : World.setCell w1 _ _ = W9
      have r9 : W9.cell? ⟨w.heap.size + 1, 0, none⟩ = some (.slice none 0 0) := by rw [← hW9]; exact (KR.out.set_ 0 _).cell rfl
      have b9 : Below w.heap.size w W9 := by rw [← hW9]; exact B1.out.setCell (p := ⟨w.heap.size + 1, 0, none⟩) (Nat.le_succ _) _
      refine bodyPost_ret (v := .tuple #[.agg #[.slice none 0 0], .int .i64 2]) (by simp [results, Tryd.results16, go_sem, r9]) rfl ?_
      exact fin2 _ b9

set_option maxRecDepth 100000 in
set_option maxHeartbeats 40000000 in
/-- the tree below a node -/
theorem part_own {t u : Tr} {v : Value} (ap : Nat) (hg : t.Good) (hsz : t.size ≤ 256) (hdp : t.deep ≤ 32) (hap : ap < t.size) (hu : subT t ap = some u) (w w0 : World) (hs : SlR w0 w0.heap.size 4 (ND.Is w0 w0.heap.size) v (ndsT t 0)) (hok : ∀ d ∈ ndsT t 0, NdOk d) (hm : Marks w0) (hp : Pow w0) (hw : Below w0.heap.size w0 w) :
    Calls Tryd.prog 16 #[.agg #[v], .int .i64 (ap : Int)] w (PartO w (u.flat 0) 0) := by
  obtain ⟨l, hl⟩ : ∃ l, l = ndsT t 0 := ⟨_, rfl⟩
  have hr0 : rightE l = 0 := by rw [hl]; exact (right_of hg hsz hdp).1
  have hlen : l.length = t.size := by rw [hl, nds_len]
  obtain ⟨u', hu', su, _, _, hflat, _⟩ := sub_some t ap hap
  rw [hu] at hu'
  injection hu' with hu'
  subst hu'
  have hget : ∀ j d, (u.flat ap)[j]? = some d → l[ap + j]? = some d.nd := fun j d hd => by rw [hl]; exact sub_get (hflat 0) hd
  have hkin : ∀ d ∈ u.flat ap, ∀ k ∈ d.kids, ap < k ∧ k < ap + u.size := kids_in u ap
  have hmore : ∀ j, j < u.size → ap + j < endL ((u.flat ap).take j) (ap + 1) := fun j hj => end_more u ap (ap + 1) j (by omega) hj
  have hend : ∀ j, endL ((u.flat ap).take j) (ap + 1) ≤ ap + u.size := end_part u ap
  have hback : (u.flat ap).map (backN ap) = u.flat 0 := by have := flat_back u 0 ap; rwa [Nat.zero_add] at this
  have hul : (u.flat ap).length = u.size := trFlat_len u ap
  rw [← hl] at hs hok
  obtain ⟨a, c, rfl⟩ : ∃ a c, v = .slice a l.length c := by obtain ⟨a, c, h, _⟩ := hs.form; exact ⟨a, c, h⟩
  have hn63 : l.length ≤ 9223372036854775807 := by have := hs.caps; unfold maxLen at this; omega
  have RT := Lib.hid (fun Y (hY : Below w.heap.size w Y) => right_e Y w0 hs hok hm hp (hw.trans (hY.mono hw.size)))
  have B0 : Hid (Below w.heap.size w ((w.alloc (.cells #[.slice a l.length c] 24)).alloc (.cells #[.slice none 0 0] 24))) := Lib.hid (((Below.refl _ _).alloc (Nat.le_refl _) _).alloc (by rw [World.size_alloc]; omega) _)
  have K0 : Hid (Blk ((w.alloc (.cells #[.slice a l.length c] 24)).alloc (.cells #[.slice none 0 0] 24)) w.heap.size 24 #[.slice a l.length c]) := Lib.hid ((Blk.new _ _ _).alloc _)
  have R0 : Hid (Blk ((w.alloc (.cells #[.slice a l.length c] 24)).alloc (.cells #[.slice none 0 0] 24)) (w.heap.size + 1) 24 #[.slice none 0 0]) := Lib.hid (Blk.new_ (by rw [World.size_alloc]) _ _)
  rw [hr0] at RT
  obtain ⟨n, hn⟩ : ∃ n, l.length = n := ⟨_, rfl⟩
  have HN := Lib.hid hn
  rw [hn] at hn63 B0 K0 R0 RT hlen ⊢
  have HS := Lib.hid hs
  have HW := Lib.hid hw
  have n256 : n ≤ 256 := by omega
  have apn : ap < n := by omega
  have un : ap + u.size ≤ n := by omega
  have HGET := Lib.hid hget
  have HKIN := Lib.hid hkin
  have HMORE := Lib.hid hmore
  have HEND := Lib.hid hend
  have HBACK := Lib.hid hback
  have HUL := Lib.hid hul
  have HKF := Lib.hid (kids_few u ap)
  obtain ⟨us, hus⟩ : ∃ z, u.size = z := ⟨_, rfl⟩
  rw [hus] at un
  have HUS := Lib.hid hus
  have d1 : decide ((ap : Int) < 0) = false := by simp only [decide_eq_false_iff_not]; omega
  have d2 : decide ((n : Int) ≤ (ap : Int)) = false := by simp only [decide_eq_false_iff_not]; omega
  have d3 : decide (n ≤ ap) = false := by simp only [decide_eq_false_iff_not]; omega
  have a63 : (ap : Int) ≤ 256 := by omega
  have a0 : (0 : Int) ≤ (ap : Int) := Int.natCast_nonneg _
  obtain ⟨jE, hi, hz, hs2, hby⟩ := info_parts info_enode
  have IE := Lib.hid (And.intro hi (And.intro hz (And.intro hs2 hby)))
  clear hi hz hs2 hby
  obtain ⟨jI, hi, hz, hs2, hby⟩ := info_parts info_int
  have II := Lib.hid (And.intro hi (And.intro hz (And.intro hs2 hby)))
  clear hi hz hs2 hby hs hok hm hp hw hg hsz hdp hap hu hl hr0 hlen su hflat hget hkin hmore hend hback hul hn hus
  go_enter Tryd.func16, Tryd.ntmps16
  go_wp2_with (first
    | (go_at_call 18; refine (RT.out _ B0.out).mono ?_; rintro e w1 ⟨rfl, b1⟩; have B1 := Lib.hid (B0.out.trans (b1.mono B0.out.size)); have KQ := Lib.hid (K0.out.below b1 K0.out.lt); have KR := Lib.hid (R0.out.below b1 R0.out.lt); have c1 : w1.cell? ⟨w.heap.size, 0, none⟩ = some (.slice a n c) := KQ.out.cell rfl; have r1 : w1.cell? ⟨w.heap.size + 1, 0, none⟩ = some (.slice none 0 0) := KR.out.cell rfl; have z1 := KR.out.frozen 0; have l1 := KR.out.lt; have l0 := KQ.out.lt; clear b1))
  have KQA : Hid (Blk (w1.alloc (.cells #[.slice none 0 0] 24)) w.heap.size 24 #[.slice a n c]) := Lib.hid (KQ.out.alloc _)
  have KRA : Hid (Blk (w1.alloc (.cells #[.slice none 0 0] 24)) (w.heap.size + 1) 24 #[.slice none 0 0]) := Lib.hid (KR.out.alloc _)
  have KOA : Hid (Blk (w1.alloc (.cells #[.slice none 0 0] 24)) w1.heap.size 24 #[.slice none 0 0]) := Lib.hid (Blk.new _ _ _)
  have BA : Hid (Below w.heap.size w (w1.alloc (.cells #[.slice none 0 0] 24))) := Lib.hid (B1.out.alloc B1.out.size _)
  have L1 : Hid (w.heap.size + 1 < w1.heap.size) := Lib.hid l1
  have L0 : Hid (w.heap.size < w1.heap.size) := Lib.hid l0
  clear RT c1 r1 z1
  go_loopw [8, 9, 10, 11, 13, 46] (fun ev iv _ _ _ _ wr => ∃ (i j : Nat) (oa : Option Addr) (oc : Nat) (es : List (EN × Value)), Hid (i = ap + j) ∧ j ≤ us ∧ i ≤ ap + us ∧ iv = .int .i64 (i : Int) ∧ ev = .int .i64 (endL ((u.flat ap).take j) (ap + 1) : Int) ∧ Hid (es.map (·.1) = ((u.flat ap).take j).map (backN ap)) ∧ Hid (EL wr (w1.heap.size + 1) (.slice oa j oc) es) ∧ Hid (Blk wr w.heap.size 24 #[.slice a n c]) ∧ Hid (Blk wr (w.heap.size + 1) 24 #[.slice none 0 0]) ∧ Hid (Blk wr w1.heap.size 24 #[.slice oa j oc]) ∧ Hid (Below w.heap.size w wr)) (fun _ iv _ _ _ _ _ => ap + us - (intOf iv).toNat)
  case atStart =>
    exact ⟨ap, 0, none, 0, [], Lib.hid rfl, Nat.zero_le _, by omega, by go_num, by simp [endL], Lib.hid (by simp), Lib.hid (EL.nil _ _), KQA, KRA, KOA, BA⟩
  case round =>
    obtain ⟨i, j, oa, oc, es, hij, hj, hi, rfl, rfl, HES, HEL, KQ1, KR1, KO1, HB1⟩ := hrel
    clear KQA KRA KOA BA
    obtain ⟨wo, hwo⟩ : ∃ W, W = wr := ⟨wr, rfl⟩
    subst hwo
    have i0 : (0 : Int) ≤ (i : Int) := Int.natCast_nonneg _
    have he1 := HEND.out j
    rw [HUS.out] at he1
    obtain ⟨E, hE⟩ : ∃ z, endL ((u.flat ap).take j) (ap + 1) = z := ⟨_, rfl⟩
    rw [hE] at he1 ⊢
    have HE := Lib.hid hE
    have E256 : (E : Int) ≤ 256 := by omega
    have E0 : (0 : Int) ≤ (E : Int) := Int.natCast_nonneg _
    have q0 : wo.cell? ⟨w.heap.size, 0, none⟩ = some (.slice a n c) := KQ1.out.cell (i := 0) rfl
    have o0 : wo.cell? ⟨w1.heap.size, 0, none⟩ = some (.slice oa j oc) := KO1.out.cell (i := 0) rfl
    have zr := KR1.out.frozen 0
    have lq := KQ1.out.lt
    have lr := KR1.out.lt
    have lo := KO1.out.lt
    by_cases hlt : j < us
    · have hmr := HMORE.out j (by rw [HUS.out]; exact hlt)
      rw [hE] at hmr
      have hij2 := hij.out
      have dlt : decide ((i : Int) < (E : Int)) = true := by simp only [decide_eq_true_eq]; omega
      have dlt2 : decide (i < E) = true := by simp only [decide_eq_true_eq]; omega
      obtain ⟨d, hd⟩ := get_some (HUL.out.trans HUS.out) hlt
      have hln := HGET.out j d hd
      rw [← hij2] at hln
      have hwr : Below w0.heap.size w0 wo := HW.out.trans (HB1.out.mono HW.out.size)
      obtain ⟨bN, off, x, rfl, hbN, _, ⟨kv, rfl, hks⟩, hx⟩ := (HS.out.below hwr).at_ hln
      have hkl : d.nd.kids.length = d.kids.length := by rw [nd_kids, List.length_map]
      obtain ⟨ka, kc, rfl, _⟩ := hks.form
      rw [hkl] at hks hx
      obtain ⟨kn, hkn⟩ : ∃ z, d.kids.length = z := ⟨_, rfl⟩
      have HKN := Lib.hid hkn
      rw [hkn] at hks hx
      have x0 : wo.cell? ⟨bN, off + i * 4, none⟩ = some (.int .i64 (d.kind : Int)) := hx 0 _ rfl
      have x1 : wo.cell? ⟨bN, off + i * 4 + 1, none⟩ = some (.string (txt d.text)) := hx 1 _ rfl
      have x2 : wo.cell? ⟨bN, off + i * 4 + 2, none⟩ = some (.int .i64 d.num) := hx 2 _ rfl
      have x3 : wo.cell? ⟨bN, off + i * 4 + 3, none⟩ = some (.slice ka kn kc) := hx 3 _ rfl
      have hkcap := hks.caps
      have kn63 : kn ≤ 9223372036854775807 := by unfold maxLen at hkcap; omega
      have kb : kn ≤ us := by have := HKF.out d (List.mem_iff_getElem?.2 ⟨j, hd⟩); rw [HUS.out] at this; omega
      have HKS := Lib.hid hks
      have HIN := Lib.hid (HKIN.out d (List.mem_iff_getElem?.2 ⟨j, hd⟩))
      have HD := Lib.hid hd
      have HHH := Lib.hid hwr
      have apj : (i : Int) < (n : Int) := by omega
      have apj2 : i < n := by omega
      have lbN : bN < wo.heap.size := by have := hwr.size; omega
      clear hd hln hks hx hkn hwr hE hmr hkcap hij2 hkl hbN
      go_wp2_with fail
      have E1 : Hid (EL (wo.alloc (.cells #[.int .i64 (d.kind : Int), .string (txt d.text), .int .i64 d.num, .slice ka kn kc] 46)) (w1.heap.size + 1) (.slice oa j oc) es) := Lib.hid (HEL.out.alloc _)
      have G1 : Hid (Blk (wo.alloc (.cells #[.int .i64 (d.kind : Int), .string (txt d.text), .int .i64 d.num, .slice ka kn kc] 46)) wo.heap.size 46 #[.int .i64 (d.kind : Int), .string (txt d.text), .int .i64 d.num, .slice ka kn kc]) := Lib.hid (Blk.new _ _ _)
      have S1 : Hid ((wo.alloc (.cells #[.int .i64 (d.kind : Int), .string (txt d.text), .int .i64 d.num, .slice ka kn kc] 46)).heap.size = wo.heap.size + 1) := Lib.hid (by rw [World.size_alloc])
      have BW : Hid (Below wo.heap.size wo (wo.alloc (.cells #[.int .i64 (d.kind : Int), .string (txt d.text), .int .i64 d.num, .slice ka kn kc] 46))) := Lib.hid ((Below.refl _ _).alloc (Nat.le_refl _) _)
      obtain ⟨wb, hwb⟩ : ∃ W, wo.alloc (.cells #[.int .i64 (d.kind : Int), .string (txt d.text), .int .i64 d.num, .slice ka kn kc] 46) = W := ⟨_, rfl⟩
      rw [hwb] at E1 G1 S1 BW
      obtain ⟨S, hS⟩ : ∃ z, wo.heap.size + 1 = z := ⟨_, rfl⟩
      have HSS := Lib.hid hS
      have HWB := Lib.hid hwb
      rw [hS] at S1
      clear x0 x1 x2 x3 q0 o0 zr hS hwb
      go_hide hQ
      go_loopw [8, 11, 13, 46] (fun ev lv _ iv wr => ∃ (m : Nat) (la : Option Addr) (lc : Nat), m ≤ kn ∧ iv = .int .i64 (m : Int) ∧ ev = .int .i64 (endK (d.kids.take m) E : Int) ∧ lv = .slice la m lc ∧ Hid (Own1 wr S 3 1 IsNat (.slice la m lc) ((d.kids.take m).map (· - ap))) ∧ Hid (Below S wb wr)) (fun _ _ _ iv _ => kn - (intOf iv).toNat)
      case atStart =>
        exact ⟨0, none, 0, Nat.zero_le _, rfl, rfl, rfl, Lib.hid ⟨[], ⟨rfl, .inl ⟨rfl, rfl⟩⟩, FlatR.nil_⟩, Lib.hid (by rw [HWB.out]; exact Below.refl _ _)⟩
      case round =>
        obtain ⟨m, la, lc, hmk, rfl, rfl, rfl, HL2, HB2⟩ := hrel
        obtain ⟨wr2, hwr2⟩ : ∃ W, W = wr := ⟨wr, rfl⟩
        subst hwr2
        have m0 : (0 : Int) ≤ (m : Int) := Int.natCast_nonneg _
        have he3 : endK (d.kids.take m) E ≤ ap + us := endK_le _ _ _ he1 (fun x hx => by have := HIN.out x (List.mem_of_mem_take hx); rw [HUS.out] at this; exact this.2)
        obtain ⟨E2, hE2⟩ : ∃ z, endK (d.kids.take m) E = z := ⟨_, rfl⟩
        rw [hE2] at he3 ⊢
        have HE2 := Lib.hid hE2
        have E3b : (E2 : Int) ≤ 256 := by omega
        have E30 : (0 : Int) ≤ (E2 : Int) := Int.natCast_nonneg _
        by_cases hml : m < kn
        · obtain ⟨k, hk⟩ := get_some HKN.out hml
          have hki := HIN.out k (List.mem_iff_getElem?.2 ⟨m, hk⟩)
          rw [HUS.out] at hki
          have hsn := take_snoc1 hk
          have he2 : endK (d.kids.take (m + 1)) E = max E2 (k + 1) := by rw [hsn, endK_snoc, hE2]
          have hw2 : Below w0.heap.size w0 wr2 := HHH.out.trans ((BW.out.mono HHH.out.size).trans (HB2.out.mono (by have := HHH.out.size; have := HSS.out; omega)))
          obtain ⟨bK, offK, xk, rfl, hbK, _, hxk, hck⟩ := (HKS.out.below hw2).at_ (y := (k : Int)) (k := m) (by rw [nd_kids, List.getElem?_map, hk]; rfl)
          have hxk : xk = [.int .i64 (k : Int)] := hxk
          subst hxk
          have kc0 := hck 0 _ rfl
          simp only [Nat.mul_one, Nat.add_zero] at kc0
          have k0 : (0 : Int) ≤ (k : Int) := Int.natCast_nonneg _
          have k2 : (k : Int) ≤ 256 := by omega
          have ka0 : (ap : Int) < (k : Int) := by omega
          have KN : Hid (IsNat [.int .i64 ((k : Int) - (ap : Int))] (k - ap)) := Lib.hid (by show [Value.int .i64 ((k : Int) - (ap : Int))] = [.int .i64 ((k - ap : Nat) : Int)]; congr 2; omega)
          have HK := Lib.hid hk
          have HSN := Lib.hid hsn
          have HE4 := Lib.hid he2
          have lbK : bK < wr2.heap.size := by have := hw2.size; omega
          clear hk hki hsn he2 hw2 hck hE2 hbK
          go_wp2_with (first
            | (at_builtin
               refine wpList_append_list rfl (.tmp 50) (.tmp 54) _ rfl S (wr2.heap.size + 1) 3 jI _ 1 8 Tryd.underlying44 II.out.1 II.out.2.1 II.out.2.2.1 II.out.2.2.2 rfl (by omega) (R := IsNat) (l := (d.kids.take m).map (· - ap)) (m := [k - ap]) (.slice la m lc) ?_ (by exact HL2.out.alloc (.cells #[.int .i64 ((k : Int) - (ap : Int))] 3)) (some ⟨wr2.heap.size, 0, none⟩) 1 1 ?_ (by exact SlR.new1 (x := [.int .i64 ((k : Int) - (ap : Int))]) rfl rfl KN.out) (m + 1) (by rw [List.length_map, List.length_take, HKN.out]; omega) IsNat.one (by rw [List.length_map, List.length_take]; unfold maxLen; omega) (by rw [List.length_map, List.length_take]; omega) (by have := HB2.out.size; have := S1.out; rw [World.size_alloc]; omega) ?_
               rfl
               rfl
               intro la2 lc2 w3 hown hgr
               have O3 := Lib.hid (And.intro hown hgr)
               clear hown hgr))
          go_roundw
          case rel =>
            refine ⟨m + 1, la2, lc2, by omega, by go_num, ?_, rfl, Lib.hid ?_, Lib.hid ?_⟩
            · rw [HE4.out]
              congr 1
              omega
            · have := O3.out.1
              rw [HSN.out, List.map_append]
              exact this
            · exact (HB2.out.alloc (by have := HB2.out.size; have := S1.out; omega) _).grown O3.out.2 (by have := HB2.out.size; have := S1.out; rw [World.size_alloc]; omega) (fun g' hg' => (HL2.out.block g' hg').1)
          case measure => simp [intOf]; omega
        · obtain rfl : m = kn := by omega
          have hdk : d.kids.take m = d.kids := List.take_of_length_le (by rw [HKN.out]; exact Nat.le_refl _)
          have HDK := Lib.hid hdk
          have djj : decide (m < m) = false := by simp
          have sS := S1.out
          have sz2 := HB2.out.size
          have hSS := HSS.out
          have G2 := Lib.hid (G1.out.below HB2.out (by omega))
          have y0 : wr2.cell? ⟨wo.heap.size, 0, none⟩ = some (.int .i64 (d.kind : Int)) := G2.out.cell rfl
          have y1 : wr2.cell? ⟨wo.heap.size, 1, none⟩ = some (.string (txt d.text)) := G2.out.cell rfl
          have y2 : wr2.cell? ⟨wo.heap.size, 2, none⟩ = some (.int .i64 d.num) := G2.out.cell rfl
          have y3 : wr2.cell? ⟨wo.heap.size, 3, none⟩ = some (.slice ka m kc) := G2.out.cell rfl
          have yz := G2.out.frozen 3
          have BO : Below wo.heap.size wo (wr2.setCell ⟨wo.heap.size, 3, none⟩ (.slice la m lc)) := (BW.out.trans (HB2.out.mono (by omega))).setCell (p := ⟨wo.heap.size, 3, none⟩) (Nat.le_refl _) _
          have E3 := Lib.hid (HEL.out.below BO)
          have KO2 : Blk wr2 w1.heap.size 24 #[.slice oa j oc] := KO1.out.below (BW.out.trans (HB2.out.mono (by omega))) lo
          have o2 : wr2.cell? ⟨w1.heap.size, 0, none⟩ = some (.slice oa j oc) := KO2.cell (i := 0) rfl
          have KO3 : Hid (Blk (wr2.setCell ⟨wo.heap.size, 3, none⟩ (.slice la m lc)) w1.heap.size 24 #[.slice oa j oc]) := Lib.hid (KO1.out.below BO lo)
          have S3 : Hid (w1.heap.size + 1 ≤ (wr2.setCell ⟨wo.heap.size, 3, none⟩ (.slice la m lc)).heap.size) := Lib.hid (by have := BO.size; omega)
          have HBO := Lib.hid BO
          have HEN : Hid (es.length = j) := Lib.hid (by have := congrArg List.length HES.out; rw [List.length_map, List.length_map, List.length_take, HUL.out, HUS.out] at this; omega)
          have gne : wo.heap.size ≠ w1.heap.size := by omega
          have gne2 : w1.heap.size ≠ wo.heap.size := by omega
          have lg2 : wo.heap.size < wr2.heap.size := by omega
          have lo2 : w1.heap.size < wr2.heap.size := by omega
          clear hdk KO2 BO hml sS sz2 hSS hE2
          subst hQ
          go_wp2_with (first
            | (at_builtin
               go_must (refine wpList_append_list rfl (.tmp 64) (.tmp 66) _ rfl (w1.heap.size + 1) ((wr2.setCell ⟨wo.heap.size, 3, none⟩ (.slice la m lc)).heap.size + 1) 46 jE _ 4 56 Tryd.underlying22 IE.out.1 IE.out.2.1 IE.out.2.2.1 IE.out.2.2.2 rfl (by omega) (R := IsEN) (l := es) (m := [(⟨d.kind, d.text, d.num, d.kids.map (· - ap)⟩, .slice la m lc)]) (.slice oa j oc) ?_ (by exact E3.out.main.alloc (.cells #[.int .i64 (d.kind : Int), .string (txt d.text), .int .i64 d.num, .slice la m lc] 46)) (some ⟨wr2.heap.size, 0, none⟩) 1 1 ?_ (by exact SlR.new1 (w := (wr2.setCell ⟨wo.heap.size, 3, none⟩ (.slice la m lc))) (x := [.int .i64 (d.kind : Int), .string (txt d.text), .int .i64 d.num, .slice la m lc]) (by simp) rfl ⟨rfl, _, _, _, rfl⟩) (j + 1) (by rw [HEN.out]) IsEN.one (by rw [HEN.out]; unfold maxLen; omega) (by rw [HEN.out]; omega) (by have := S3.out; rw [World.size_alloc]; omega) ?_)
               rfl
               rfl
               intro oa2 oc2 w4 hown hgr
               have O4 := Lib.hid (And.intro hown hgr)
               have K4 := Lib.hid ((KO3.out.alloc (.cells #[.int .i64 (d.kind : Int), .string (txt d.text), .int .i64 d.num, .slice la m lc] 46)).grown hgr (fun e => by have := (E3.out.main.block _ e.symm).1; omega))
               have g4 : w4.cell? ⟨w1.heap.size, 0, none⟩ = some (.slice oa j oc) := K4.out.cell (i := 0) rfl
               have z4 := K4.out.frozen 0
               clear hown hgr))
          have HB4 : Below (w1.heap.size + 1) wo w4 := ((HBO.out.mono (by omega)).alloc S3.out (.cells #[.int .i64 (d.kind : Int), .string (txt d.text), .int .i64 d.num, .slice la m lc] 46)).grown O4.out.2 (by have := HBO.out.size; rw [World.size_alloc]; omega) (fun g' hg' => (HEL.out.main.block g' hg').1)
          have hkv : Own1 ((wr2.setCell ⟨wo.heap.size, 3, none⟩ (.slice la m lc)).alloc (.cells #[.int .i64 (d.kind : Int), .string (txt d.text), .int .i64 d.num, .slice la m lc] 46)) (w1.heap.size + 1) 3 1 IsNat (.slice la m lc) (d.kids.map (· - ap)) := by
            have := ((HL2.out.setFar (p := ⟨wo.heap.size, 3, none⟩) (by show wo.heap.size < S; have := HSS.out; omega) (.slice la m lc)).alloc (.cells #[.int .i64 (d.kind : Int), .string (txt d.text), .int .i64 d.num, .slice la m lc] 46)).mono (base' := w1.heap.size + 1) (by have := HSS.out; omega)
            rw [HDK.out] at this
            exact this
          have E4 := (E3.out.alloc (.cells #[.int .i64 (d.kind : Int), .string (txt d.text), .int .i64 d.num, .slice la m lc] 46)).push2 (e := ⟨d.kind, d.text, d.num, d.kids.map (· - ap)⟩) hkv (fun i p b hp hb e' => by
            have h1 := ((HEL.out.kids i p hp).block b hb).2
            have h2 := (HL2.out.block b e').1
            have := HSS.out
            omega) O4.out.1 O4.out.2
          have HE4 := Lib.hid E4
          have HB5 := Lib.hid HB4
          clear E4 hkv HB4
          go_roundw
          case rel =>
            have hij3 := hij.out
            refine ⟨i + 1, j + 1, oa2, oc2, es ++ [(⟨d.kind, d.text, d.num, d.kids.map (· - ap)⟩, .slice la m lc)], Lib.hid (by have := hij.out; omega), by omega, by omega, by go_num, ?_, Lib.hid ?_, Lib.hid (HE4.out.setLow (p := ⟨w1.heap.size, 0, none⟩) (Nat.lt_succ_self _) _), Lib.hid ((KQ1.out.below HB5.out (by have := L0.out; omega)).far (Nat.ne_of_lt L0.out) _), Lib.hid ((KR1.out.below HB5.out (by have := L1.out; omega)).far (Nat.ne_of_lt L1.out) _), Lib.hid (K4.out.set_ 0 _), Lib.hid ((HB1.out.trans (HB5.out.mono (by have := L0.out; omega))).setCell (p := ⟨w1.heap.size, 0, none⟩) (Nat.le_of_lt L0.out) _)⟩
            · rw [take_snoc1 HD.out, endL_snoc, HE.out, ← HE2.out, HDK.out]
            · rw [take_snoc1 HD.out, List.map_append, List.map_append, HES.out]
              rfl
          case measure => have hij3 := hij.out; simp [intOf]; omega
    · obtain rfl : j = us := by omega
      have hij2 := hij.out
      have dlt : decide ((i : Int) < (E : Int)) = false := by simp only [decide_eq_false_iff_not]; omega
      have dlt2 : decide (i < E) = false := by simp only [decide_eq_false_iff_not]; omega
      have rr0 : wo.cell? ⟨w.heap.size + 1, 0, none⟩ = some (.slice none 0 0) := KR1.out.cell rfl
      clear hlt hij2 hE
      go_wp2_with fail
      generalize hW9 : World.setCell wo _ _ = W9
      have r9 : W9.cell? ⟨w.heap.size + 1, 0, none⟩ = some (.slice oa j oc) := by rw [← hW9]; exact (KR1.out.set_ 0 _).cell rfl
      have b9 : Below w.heap.size w W9 := by rw [← hW9]; exact HB1.out.setCell (p := ⟨w.heap.size + 1, 0, none⟩) (Nat.le_succ _) _
      have e9 : EL W9 (w1.heap.size + 1) (.slice oa j oc) es := by rw [← hW9]; exact HEL.out.setLow (p := ⟨w.heap.size + 1, 0, none⟩) (by show w.heap.size + 1 < w1.heap.size + 1; have := L1.out; omega) _
      refine bodyPost_ret (v := .tuple #[.agg #[.slice oa j oc], .int .i64 0]) (by simp [results, Tryd.results16, go_sem, r9]) rfl ?_
      refine ⟨_, es, rfl, e9.mono (by have := L0.out; omega), ?_, b9⟩
      rw [HES.out, List.take_of_length_le (by rw [HUL.out, HUS.out]; exact Nat.le_refl _), HBACK.out]

theorem part_no {l : List ND} {v : Value} (w w0 : World) (hs : SlR w0 w0.heap.size 4 (ND.Is w0 w0.heap.size) v l) (hok : ∀ d ∈ l, NdOk d) (hm : Marks w0) (hp : Pow w0) (hw : Below w0.heap.size w0 w) (at_ : Int) (r : Nat) (hr : (rightE l ≠ 0 ∧ r = rightE l) ∨ (rightE l = 0 ∧ (at_ < 0 ∨ (l.length : Int) ≤ at_) ∧ r = 2)) :
    Calls Tryd.prog 16 #[.agg #[v], .int .i64 at_] w (PartIs w [] r) := (part_none w w0 hs hok hm hp hw at_ r hr).mono fun _ _ h => h.is
theorem part_yes {t u : Tr} {v : Value} (ap : Nat) (hg : t.Good) (hsz : t.size ≤ 256) (hdp : t.deep ≤ 32) (hap : ap < t.size) (hu : subT t ap = some u) (w w0 : World) (hs : SlR w0 w0.heap.size 4 (ND.Is w0 w0.heap.size) v (ndsT t 0)) (hok : ∀ d ∈ ndsT t 0, NdOk d) (hm : Marks w0) (hp : Pow w0) (hw : Below w0.heap.size w0 w) :
    Calls Tryd.prog 16 #[.agg #[v], .int .i64 (ap : Int)] w (PartIs w (u.flat 0) 0) := (part_own ap hg hsz hdp hap hu w w0 hs hok hm hp hw).mono fun _ _ h => h.is
end Go.Proofs.YtlenenfgedgmhaaDoor
