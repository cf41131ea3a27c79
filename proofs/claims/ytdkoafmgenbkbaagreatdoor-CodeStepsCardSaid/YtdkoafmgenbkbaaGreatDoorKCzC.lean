/- - -/
import Derived.Test.YtdkoafmgenbkbaaGreatDoorKM8
import Derived.Test.YtdkoafmgenbkbaaGreatDoorKM12
set_option maxRecDepth 100000
set_option maxHeartbeats 32000000
set_option linter.unusedSimpArgs false
set_option linter.unusedVariables false
namespace Go.Proofs.YtdkoafmgenbkbaaGreatDoor
open Go.RowKit
def AtC (c : List Ins) (i : Nat) (L : List Ins) : Prop := ∀ j x, L[j]? = some x → c[i + j]? = some x
theorem AtC.app {c : List Ins} {i : Nat} {a b : List Ins} (h : AtC c i (a ++ b)) : AtC c i a ∧ AtC c (i + a.length) b := by
  constructor
  · intro j x hx
    have hj := (List.getElem?_eq_some_iff.1 hx).1
    exact h j x (by rw [List.getElem?_append_left hj]; exact hx)
  · intro j x hx
    rw [Nat.add_assoc]
    exact h _ x (by rw [List.getElem?_append_right (by omega), Nat.add_sub_cancel_left]; exact hx)
theorem AtC.head {c : List Ins} {i : Nat} {x : Ins} {L : List Ins} (h : AtC c i (x :: L)) : c[i]? = some x ∧ AtC c (i + 1) L := by
  have h1 : AtC c i ([x] ++ L) := h
  exact ⟨h1.app.1 0 x rfl, h1.app.2⟩
theorem AtC.le {c : List Ins} {i : Nat} {L : List Ins} (h : AtC c i L) (h0 : 0 < L.length) : i + L.length ≤ c.length := by
  have e : L[L.length - 1]? = some L[L.length - 1] := List.getElem?_eq_getElem (by omega)
  have := (List.getElem?_eq_some_iff.1 (h _ _ e)).1
  omega
def FrP (l : List Pl) (j : Nat) (h : Int) (ls : List (Int × Int)) : Prop := l[j]? = some Pl.none ∨ l[j]? = some ⟨true, h, ls⟩
theorem lead_ok {l : List Pl} {j : Nat} {h : Int} {ls : List (Int × Int)} (hf : FrP l j h ls) : ∃ l', leadN l j h ls = some l' ∧ l'.length = l.length ∧ l'[j]? = some ⟨true, h, ls⟩ ∧ ∀ g, g ≠ j → l'[g]? = l[g]? := by
  rcases hf with e | e
  · have hj := (List.getElem?_eq_some_iff.1 e).1
    refine ⟨l.set j ⟨true, h, ls⟩, ?_, by simp, ?_, fun g hg => ?_⟩
    · unfold leadN
      rw [e]
      rfl
    · rw [List.getElem?_set_self hj]
    · rw [List.getElem?_set_ne (by omega)]
  · refine ⟨l, ?_, rfl, e, fun _ _ => rfl⟩
    unfold leadN
    rw [e]
    simp
def baL (ls : List (Int × Int)) : Int := match ls.getLast? with | some x => x.1 | none => 0
theorem base_is (h : Int) (ls : List (Int × Int)) : (Pl.mk true h ls).base = baL ls := rfl
theorem baL_push (ls : List (Int × Int)) (a b : Int) : baL (ls ++ [(a, b)]) = a := by unfold baL; rw [List.getLast?_concat]
structure RunC (c : List Ins) (i n : Nat) (l l' : List Pl) (h : Int) (ls : List (Int × Int)) : Prop where
  go : ∀ k, goN c (n + k) i l = goN c k (i + n) l'
  len : l'.length = l.length
  at_ : l'[i + n]? = some ⟨true, h, ls⟩
  far : ∀ j, i + n < j → l'[j]? = l[j]?
theorem go_stepZ {c : List Ins} {i : Nat} {l l' : List Pl} {p : Pl} {x : Ins} (hl : l[i]? = some p) (hx : c[i]? = some x) (hk : p.known = true) (hp : plainN x = true) (hi : insN c l i p x = some l') (k : Nat) : goN c (1 + k) i l = goN c k (i + 1) l' := by
  have e : stepN c l i = some l' := by
    unfold stepN
    rw [hl, hx]
    simp only
    rw [if_pos ⟨hk, hp⟩, hi]
  rw [Nat.add_comm 1 k]
  simp only [goN, e]
theorem run_one {c : List Ins} {i : Nat} {l : List Pl} {h h' : Int} {ls : List (Int × Int)} {x : Ins} (hl : l[i]? = some ⟨true, h, ls⟩) (hx : c[i]? = some x) (hp : plainN x = true) (hf : FrP l (i + 1) h' ls) (hi : insN c l i ⟨true, h, ls⟩ x = leadN l (i + 1) h' ls) : ∃ l', RunC c i 1 l l' h' ls := by
  obtain ⟨l', e1, e2, e3, e4⟩ := lead_ok hf
  exact ⟨l', fun k => go_stepZ hl hx rfl hp (by rw [hi, e1]) k, e2, e3, fun j hj => e4 j (by omega)⟩
theorem RunC.trans {c : List Ins} {i n m : Nat} {l l1 l2 : List Pl} {h h' : Int} {ls ls' : List (Int × Int)} (r1 : RunC c i n l l1 h ls) (r2 : RunC c (i + n) m l1 l2 h' ls') : RunC c i (n + m) l l2 h' ls' :=
  ⟨fun k => by rw [Nat.add_assoc, r1.go, r2.go, Nat.add_assoc], by rw [r2.len, r1.len], by rw [← Nat.add_assoc]; exact r2.at_, fun j hj => by rw [r2.far j (by omega), r1.far j (by omega)]⟩
theorem ins_step {c : List Ins} {l : List Pl} {i : Nat} {p : Pl} {x : Ins} (h : x.op = 1) : insN c l i p x = leadN l (i + 1) p.height p.loops := by unfold insN; rw [if_pos h]
theorem ins_load {c : List Ins} {l : List Pl} {i : Nat} {p : Pl} {x : Ins} (h : x.op = 8) (h2 : x.arg < p.loops.length) : insN c l i p x = leadN l (i + 1) (p.height + 1) p.loops := by unfold insN; rw [if_neg (by omega), if_pos h, if_pos h2]
theorem ins_leaf {c : List Ins} {l : List Pl} {i : Nat} {p : Pl} {x : Ins} (h : 2 ≤ x.op) (h2 : x.op ≤ 9) (h3 : x.op ≠ 8) : insN c l i p x = leadN l (i + 1) (p.height + 1) p.loops := by unfold insN; rw [if_neg (by omega), if_neg h3, if_pos h2]
theorem ins_bin {c : List Ins} {l : List Pl} {i : Nat} {p : Pl} {x : Ins} (h : 22 ≤ x.op ∧ x.op ≤ 28) (h2 : 2 ≤ p.height - p.base) : insN c l i p x = leadN l (i + 1) (p.height - 1) p.loops := by unfold insN; rw [if_neg (by omega), if_neg (by omega), if_neg (by omega), if_pos h, if_pos h2]
theorem ins_un {c : List Ins} {l : List Pl} {i : Nat} {p : Pl} {x : Ins} (h : (10 ≤ x.op ∧ x.op ≤ 21) ∨ x.op = 29 ∨ x.op = 32) (h2 : 1 ≤ p.height - p.base) : insN c l i p x = leadN l (i + 1) p.height p.loops := by
  unfold insN
  rw [if_neg (by omega), if_neg (by omega), if_neg (by omega), if_neg (by omega), if_neg (by omega), if_neg (by omega), if_neg (by omega), if_neg (by omega), if_neg (by omega), if_neg (by omega), if_pos h2]
theorem ins_and {c : List Ins} {l : List Pl} {i : Nat} {p : Pl} {x : Ins} (h : x.op = 30 ∨ x.op = 31) (h2 : 1 ≤ p.height - p.base ∧ aheadN c.length i x) : insN c l i p x = (leadN l x.arg.toNat p.height p.loops).bind fun l => leadN l (i + 1) (p.height - 1) p.loops := by
  unfold insN
  rw [if_neg (by omega), if_neg (by omega), if_neg (by omega), if_neg (by omega), if_pos h, if_pos h2]
theorem ins_unless {c : List Ins} {l : List Pl} {i : Nat} {p : Pl} {x : Ins} (h : x.op = 33) (h2 : 1 ≤ p.height - p.base ∧ aheadN c.length i x) : insN c l i p x = (leadN l x.arg.toNat (p.height - 1) p.loops).bind fun l => leadN l (i + 1) (p.height - 1) p.loops := by
  unfold insN
  rw [if_neg (by omega), if_neg (by omega), if_neg (by omega), if_neg (by omega), if_neg (by omega), if_pos h, if_pos h2]
theorem ins_jump {c : List Ins} {l : List Pl} {i : Nat} {p : Pl} {x : Ins} (h : x.op = 34) (h2 : aheadN c.length i x) : insN c l i p x = leadN l x.arg.toNat p.height p.loops := by
  unfold insN
  rw [if_neg (by omega), if_neg (by omega), if_neg (by omega), if_neg (by omega), if_neg (by omega), if_neg (by omega), if_pos h, if_pos h2]
theorem ins_loop {c : List Ins} {l : List Pl} {i : Nat} {p : Pl} {x : Ins} (h : 35 ≤ x.op ∧ x.op ≤ 38) (h2 : 1 ≤ p.height - p.base ∧ (c[i + 1]?).map (·.op) = some 39) : insN c l i p x = leadN l (i + 1) (p.height - 1) (p.loops ++ [(p.height - 1, (i : Int) + 1)]) := by
  unfold insN
  rw [if_neg (by omega), if_neg (by omega), if_neg (by omega), if_neg (by omega), if_neg (by omega), if_neg (by omega), if_neg (by omega), if_pos h, if_pos h2]
theorem ins_next {c : List Ins} {l : List Pl} {i : Nat} {p : Pl} {x : Ins} (h : x.op = 39) (h2 : p.loops ≠ [] ∧ p.next = i ∧ p.height - p.base = 0 ∧ aheadN c.length i x) : insN c l i p x = (leadN l x.arg.toNat (p.base + 1) p.loops.dropLast).bind fun l => leadN l (i + 1) p.base p.loops := by
  unfold insN
  rw [if_neg (by omega), if_neg (by omega), if_neg (by omega), if_neg (by omega), if_neg (by omega), if_neg (by omega), if_neg (by omega), if_neg (by omega), if_pos h, if_pos h2]
theorem ins_take {c : List Ins} {l : List Pl} {i : Nat} {p : Pl} {x : Ins} (h : x.op = 40) (h2 : p.loops ≠ [] ∧ x.arg = p.next ∧ p.height - p.base = 1) : insN c l i p x = some l := by
  unfold insN
  rw [if_neg (by omega), if_neg (by omega), if_neg (by omega), if_neg (by omega), if_neg (by omega), if_neg (by omega), if_neg (by omega), if_neg (by omega), if_neg (by omega), if_pos h, if_pos h2]
theorem plain_step {m : Int} (h : 1 ≤ m) : plainN (insI 1 m) = true := by
  unfold plainN insI
  simp [hasN]
  omega
theorem plain_place {op a : Int} (h : op = 30 ∨ op = 31 ∨ op = 33 ∨ op = 34 ∨ op = 39 ∨ op = 40) (ha : 0 ≤ a) : plainN (insI op a) = true := by
  unfold plainN insI
  rcases h with rfl | rfl | rfl | rfl | rfl | rfl <;> simp [hasN] <;> omega
theorem plain_loop {k : Nat} (h1 : 31 ≤ k) (h2 : k ≤ 34) : plainN (insI ((k : Int) + 4) 0) = true := by
  rcases (by omega : k = 31 ∨ k = 32 ∨ k = 33 ∨ k = 34) with rfl | rfl | rfl | rfl <;> decide
theorem var_at {vs : List (List Nat)} {s : List Nat} : (∃ i : Nat, i < vs.length ∧ varI vs s = insI 8 i) ∨ varI vs s = insI 9 0 := by
  unfold varI
  cases h : vs.reverse.findIdx? (fun x => decide (x = s)) with
  | none => exact .inr rfl
  | some i =>
    have := (List.findIdx?_eq_some_iff_findIdx_eq.1 h).1
    exact .inl ⟨i, by simpa using this, rfl⟩
theorem plain_leaf {k : Nat} {s : List Nat} {n : Int} {vs : List (List Nat)} (h : Shape k s n []) (hb : Bytes s) : plainN (leafI k s n vs) = true ∧ 2 ≤ (leafI k s n vs).op ∧ (leafI k s n vs).op ≤ 9 ∧ ((leafI k s n vs).op = 8 → (leafI k s n vs).arg < vs.length) := by
  have o0 : ∀ y ∈ onesL, y.2.2 = 0 → y.2.1 = 3 ∨ y.2.1 = 4 ∨ y.2.1 = 5 ∨ y.2.1 = 6 := by decide
  cases h with
  | int _ => simp [leafI, plainN, hasN]
  | text h =>
    refine ⟨?_, by simp [leafI], by simp [leafI], by simp [leafI]⟩
    simp [leafI, plainN, hasN, txt_size]
    exact h
  | name h =>
    have e : leafI 7 s 0 vs = varI vs s := rfl
    rw [e]
    rcases var_at (vs := vs) (s := s) with ⟨i, hi, e⟩ | e
    · rw [e]; simp [insI, plainN, hasN]; omega
    · rw [e]; simp [insI, plainN, hasN]
  | zero h1 h2 =>
    have key : ∀ k : Nat, (k = 3 ∨ k = 4 ∨ k = 5 ∨ k = 6) → plainN ⟨sameN k, 0, 0, txt []⟩ = true ∧ 2 ≤ sameN k ∧ sameN k ≤ 9 ∧ sameN k ≠ 8 := by
      intro k h
      rcases h with rfl | rfl | rfl | rfl <;> decide
    have hk := o0 _ h1 h2
    have h3 := key _ hk
    unfold leafI
    rw [if_neg (by omega), if_neg (by omega), if_neg (by omega)]
    exact ⟨h3.1, h3.2.1, h3.2.2.1, fun h => absurd h h3.2.2.2⟩
theorem plain_un {k : Nat} {s : List Nat} {n : Int} {a : Tr} (h : Shape k s n [a]) (hb : Bytes s) : plainN ⟨sameN k, 0, 0, txt s⟩ = true ∧ ((10 ≤ sameN k ∧ sameN k ≤ 21) ∨ sameN k = 29 ∨ sameN k = 32) := by
  have o1 : ∀ y ∈ onesL, y.2.2 = 1 → y.2.1 = 14 ∨ y.2.1 = 15 ∨ y.2.1 = 16 ∨ y.2.1 = 17 ∨ y.2.1 = 18 ∨ y.2.1 = 19 := by decide
  have s1 : ∀ y ∈ signsL, y.2.2 = 7 → y.2.1 ≠ 11 → y.2.1 = 8 ∨ y.2.1 = 9 ∨ y.2.1 = 10 ∨ y.2.1 = 12 ∨ y.2.1 = 13 := by decide
  cases h with
  | post h1 h2 h3 h4 =>
    have hr : rightN s = true := by
      unfold plain8N at h4
      simp only [Bool.and_eq_true] at h4
      exact h4.1
    rcases s1 _ h1 h2 h3 with h | h | h | h | h <;> rw [h] <;> simp [sameN, plainN, hasN, bs_txt hb, hr]
  | parent => decide
  | not_ => decide
  | one h1 h2 => rcases o1 _ h1 h2 with h | h | h | h | h | h <;> rw [h] <;> decide
theorem plain_bin {k : Nat} {s : List Nat} {n : Int} {a b : Tr} (h : Shape k s n [a, b]) (hk : 20 ≤ k ∧ k ≤ 26) : plainN ⟨sameN k, 0, 0, txt s⟩ = true ∧ 22 ≤ sameN k ∧ sameN k ≤ 28 := by
  have o2 : ∀ y ∈ onesL, y.2.2 = 2 → 31 ≤ y.2.1 := by decide
  cases h with
  | bin h1 h2 =>
    rename_i x
    rcases (by omega : x.2.1 = 20 ∨ x.2.1 = 21 ∨ x.2.1 = 22 ∨ x.2.1 = 23 ∨ x.2.1 = 24 ∨ x.2.1 = 25 ∨ x.2.1 = 26) with h | h | h | h | h | h | h <;> rw [h] <;> decide
  | loop h1 h2 _ => have := o2 _ h1 h2; omega
theorem run_two_at {c : List Ins} {i : Nat} {l : List Pl} {h h' : Int} {ls ls' : List (Int × Int)} {x : Ins} (hl : l[i]? = some ⟨true, h, ls⟩) (hx : c[i]? = some x) (hp : plainN x = true) (hf : FrP l (i + 1) h' ls') (hi : insN c l i ⟨true, h, ls⟩ x = leadN l (i + 1) h' ls') : ∃ l', RunC c i 1 l l' h' ls' := by
  obtain ⟨l', e1, e2, e3, e4⟩ := lead_ok hf
  exact ⟨l', fun k => go_stepZ hl hx rfl hp (by rw [hi, e1]) k, e2, e3, fun j hj => e4 j (by omega)⟩
theorem go_two {c : List Ins} {i E : Nat} {l : List Pl} {p : Pl} {h1 h2 : Int} {ls1 ls2 : List (Int × Int)} {x : Ins} (hl : l[i]? = some p) (hk : p.known = true) (hx : c[i]? = some x) (hp : plainN x = true) (hE : i + 1 < E) (f1 : FrP l E h1 ls1) (f2 : FrP l (i + 1) h2 ls2) (hi : insN c l i p x = (leadN l E h1 ls1).bind fun l => leadN l (i + 1) h2 ls2) :
    ∃ l', (∀ k, goN c (1 + k) i l = goN c k (i + 1) l') ∧ l'.length = l.length ∧ l'[i + 1]? = some ⟨true, h2, ls2⟩ ∧ l'[E]? = some ⟨true, h1, ls1⟩ ∧ ∀ j, i + 1 < j → j ≠ E → l'[j]? = l[j]? := by
  obtain ⟨m, e1, e2, e3, e4⟩ := lead_ok f1
  have f2' : FrP m (i + 1) h2 ls2 := by
    unfold FrP at f2 ⊢
    rw [e4 _ (by omega)]
    exact f2
  obtain ⟨l', g1, g2, g3, g4⟩ := lead_ok f2'
  refine ⟨l', fun k => go_stepZ hl hx hk hp (by rw [hi, e1]; exact g1) k, by rw [g2, e2], g3, by rw [g4 _ (by omega)]; exact e3, fun j h1 h2 => by rw [g4 _ (by omega), e4 _ h2]⟩
structure PreC (c : List Ins) (l : List Pl) (i n : Nat) (h : Int) (ls : List (Int × Int)) : Prop where
  len : l.length = c.length + 1
  here : l[i]? = some ⟨true, h, ls⟩
  ins : ∀ j, i < j → j < i + n → l[j]? = some Pl.none
  end_ : FrP l (i + n) (h + 1) ls
theorem map_on2 (l : List Ins) (a b : Nat) : (l.map (onI a)).map (onI b) = l.map (onI (b + a)) := by
  rw [List.map_map]
  exact List.map_congr_left fun x _ => onI_on b a x
theorem cR_pos (f : Nat) (t : Tr) (vs : List (List Nat)) (m : Int) (hg : t.Good) (hd : t.deep ≤ f) : 0 < (cR f t vs m).length := by
  obtain ⟨b, x, h, _⟩ := cR_last f t vs m hg hd
  rw [h]; simp
theorem run_code : ∀ (f : Nat) (t : Tr) (vs : List (List Nat)) (m : Int), t.Good → t.deep ≤ f → 1 ≤ m → ∀ (c : List Ins) (i : Nat) (l : List Pl) (h : Int) (ls : List (Int × Int)), AtC c i ((cR f t vs m).map (onI i)) → PreC c l i (cR f t vs m).length h ls → vs.length = ls.length → baL ls ≤ h → ∃ l', RunC c i (cR f t vs m).length l l' (h + 1) ls
  | 0, .node k s n ks, vs, m, hg, hd, hm, c, i, l, h, ls, ha, hp, hv, hb => by simp only [Tr.deep] at hd; omega
  | f + 1, .node k s n ks, vs, m, hg, hd, hm, c, i, l, h, ls, ha, hp, hv, hb => by
    have hd1 := deep_one hd
    have hle := ha.le (by rw [List.length_map]; exact cR_pos (f + 1) _ vs m hg hd)
    rw [List.length_map] at hle
    have hsh := hg.1.1
    have hbs := hg.1.2.1
    rcases shape_cases hg.1.1 with ⟨rfl, h1, h2⟩ | ⟨x, rfl, h1⟩ | ⟨x, y, rfl, h1⟩ | ⟨x, y, z, rfl, h1⟩
    · -- a leaf
      simp only [cR, List.map_cons, List.map_nil, List.length_cons, List.length_nil] at ha hp hle ⊢
      obtain ⟨a1, a2⟩ := ha.head
      obtain ⟨a3, _⟩ := a2.head
      rw [onI_none (x := insI 1 m) (by show hasN 1 ≠ 5; decide)] at a1
      rw [onI_none (leaf_op h1 h2).2] at a3
      obtain ⟨l1, r1⟩ := run_one (h' := h) hp.here a1 (plain_step hm) (.inl (hp.ins (i + 1) (by omega) (by omega))) (ins_step rfl)
      obtain ⟨p1, p2, p3, p4⟩ := plain_leaf (vs := vs) (n := n) hsh hbs
      have hf : FrP l1 (i + 1 + 1) (h + 1) ls := by
        have := hp.end_
        unfold FrP at this ⊢
        rw [r1.far _ (by omega)]
        exact this
      obtain ⟨l2, r2⟩ := run_one (h' := h + 1) r1.at_ a3 p1 hf (by
        by_cases h8 : (leafI k s n vs).op = 8
        · exact ins_load h8 (by rw [← hv]; exact p4 h8)
        · exact ins_leaf p2 p3 h8)
      exact ⟨l2, r1.trans r2⟩
    · -- one part
      simp only [deepL] at hd1
      simp only [cR, List.map_append, List.length_append, List.map_cons, List.map_nil, List.length_cons, List.length_nil] at ha hp hle ⊢
      obtain ⟨a1, a2⟩ := ha.app
      rw [List.length_map] at a2
      obtain ⟨a3, _⟩ := a2.head
      obtain ⟨o, ho⟩ : ∃ o, (cR f x vs (m + 1)).length = o := ⟨_, rfl⟩
      obtain ⟨l1, r1⟩ := run_code f x vs (m + 1) hg.2.1 (by omega) (by omega) c i l h ls a1 ⟨hp.len, hp.here, fun j h1 h2 => hp.ins j h1 (by omega), .inl (hp.ins _ (by have := cR_pos f x vs (m + 1) hg.2.1 (by omega); omega) (by omega))⟩ hv hb
      rw [ho] at a3 r1 hp ⊢
      obtain ⟨p1, p2⟩ := plain_un hsh hbs
      rw [onI_none (x := ⟨sameN k, 0, 0, txt s⟩) (sameN_has (by omega) (by omega) (by omega)).2] at a3
      have hf : FrP l1 (i + o + 1) (h + 1) ls := by
        have := hp.end_
        unfold FrP at this ⊢
        rw [r1.far _ (by omega)]
        exact this
      obtain ⟨l2, r2⟩ := run_one (h' := h + 1) r1.at_ a3 p1 hf (ins_un p2 (by rw [base_is]; show 1 ≤ h + 1 - baL ls; omega))
      exact ⟨l2, r1.trans r2⟩
    · simp only [deepL] at hd1
      obtain ⟨ov, hov⟩ : ∃ o, cR f x vs (m + 1) = o := ⟨_, rfl⟩
      have hopos := cR_pos f x vs (m + 1) hg.2.1 (by omega)
      have runx := run_code f x vs (m + 1) hg.2.1 (by omega) (by omega) c i l h ls
      by_cases c1 : k = 27 ∨ k = 28
      · -- and, or
        have runy := run_code f y vs 1 hg.2.2.1 (by omega) (by omega) c
        have hypos := cR_pos f y vs 1 hg.2.2.1 (by omega)
        simp only [cR, if_pos c1, thenN, List.map_append, List.length_append, List.length_map, List.map_cons, List.map_nil, List.length_cons, List.length_nil, map_on2, hov] at ha hp hle runx hopos ⊢
        obtain ⟨o, ho⟩ : ∃ o, ov.length = o := ⟨_, rfl⟩
        obtain ⟨cb, hcb⟩ : ∃ b, cR f y vs 1 = b := ⟨_, rfl⟩
        rw [hcb] at ha hp hle runy hypos ⊢
        obtain ⟨b, hb2⟩ : ∃ b, cb.length = b := ⟨_, rfl⟩
        obtain ⟨a12, a3⟩ := ha.app
        obtain ⟨a12, a2⟩ := a12.app
        obtain ⟨a1, a12⟩ := a12.app
        have ai := a12.head.1
        have at_ := a3.head.1
        simp only [List.length_append, List.length_map, List.length_cons, List.length_nil, ho, hb2] at a1 a2 a3 ai at_ hp hle runx runy hopos hypos ⊢
        rw [onI_insI (loop_has (k := k) (by omega) (by omega)).1] at ai
        rw [onI_none (x := insI 32 0) (by decide)] at at_
        obtain ⟨l1, r1⟩ := runx a1 ⟨hp.len, hp.here, fun j h1 h2 => hp.ins j h1 (by omega), .inl (hp.ins _ (by omega) (by omega))⟩ hv hb
        obtain ⟨E, hE⟩ : ∃ E, E = i + o + 1 + b + 1 := ⟨_, rfl⟩
        have hEa : ((o : Int) + 1 + (b : Int) + 1 + (i : Int)).toNat = E := by omega
        have fE : FrP l1 E (h + 1) ls := by
          have := hp.end_
          unfold FrP at this ⊢
          rw [r1.far _ (by omega), hE]
          rw [show i + (o + (0 + 1) + b + (0 + 1)) = i + o + 1 + b + 1 by omega] at this
          exact this
        have f1 : FrP l1 (i + o + 1) h ls := .inl (by rw [r1.far _ (by omega)]; exact hp.ins _ (by omega) (by omega))
        obtain ⟨l2, g1, g2, g3, g4, g5⟩ := go_two (p := ⟨true, h + 1, ls⟩) (E := E) (h1 := h + 1) (ls1 := ls) (h2 := h) (ls2 := ls) r1.at_ rfl ai (plain_place (by omega) (by omega)) (by omega) fE f1 (by
          rw [ins_and (by show (k : Int) + 3 = 30 ∨ (k : Int) + 3 = 31; omega) ⟨by rw [base_is]; show 1 ≤ h + 1 - baL ls; omega, by show ((i + o : Nat) : Int) < (o : Int) + 1 + (b : Int) + 1 + (i : Int) ∧ (o : Int) + 1 + (b : Int) + 1 + (i : Int) ≤ (c.length : Int); omega⟩]
          show (leadN l1 ((o : Int) + 1 + (b : Int) + 1 + (i : Int)).toNat (h + 1) ls).bind _ = _
          rw [hEa]
          show (leadN l1 E (h + 1) ls).bind (fun l => leadN l (i + o + 1) (h + 1 - 1) ls) = _
          rw [show h + 1 - 1 = h by omega])
        obtain ⟨l3, r3⟩ := runy (i + o + 1) l2 h ls (by rw [← Nat.add_assoc] at a2; exact a2) ⟨by rw [g2, r1.len, hp.len], g3, fun j h1 h2 => by rw [g5 j (by omega) (by omega), r1.far j (by omega)]; exact hp.ins j (by omega) (by omega), .inl (by rw [g5 _ (by omega) (by omega), r1.far _ (by omega)]; exact hp.ins _ (by omega) (by omega))⟩ hv hb
        have at4 : c[i + o + 1 + b]? = some (insI 32 0) := by rw [← at_]; congr 1; omega
        obtain ⟨l4, r4⟩ := run_one (h' := h + 1) r3.at_ at4 (by decide) (.inr (by rw [r3.far _ (by omega), ← hE]; exact g4)) (ins_un (.inr (.inr rfl)) (by rw [base_is]; show 1 ≤ h + 1 - baL ls; omega))
        refine ⟨l4, ⟨fun q => ?_, by rw [r4.len, r3.len, g2, r1.len], ?_, fun j hj => ?_⟩⟩
        · rw [show o + (0 + 1) + b + (0 + 1) + q = o + (1 + (b + (1 + q))) by omega, r1.go, g1, r3.go, r4.go]
          congr 1; omega
        · rw [show i + (o + (0 + 1) + b + (0 + 1)) = i + o + 1 + b + 1 by omega]; exact r4.at_
        · rw [r4.far j (by omega), r3.far j (by omega), g5 j (by omega) (by omega), r1.far j (by omega)]
      · by_cases c2 : 31 ≤ k ∧ k ≤ 34
        · -- a loop
          have runy := run_code f y (vs ++ [s]) 1 hg.2.2.1 (by omega) (by omega) c
          have hypos := cR_pos f y (vs ++ [s]) 1 hg.2.2.1 (by omega)
          simp only [cR, if_neg c1, if_pos c2, thenN, List.map_append, List.length_append, List.length_map, List.map_cons, List.map_nil, List.length_cons, List.length_nil, map_on2, hov] at ha hp hle runx hopos ⊢
          obtain ⟨o, ho⟩ : ∃ o, ov.length = o := ⟨_, rfl⟩
          obtain ⟨cb, hcb⟩ : ∃ b, cR f y (vs ++ [s]) 1 = b := ⟨_, rfl⟩
          rw [hcb] at ha hp hle runy hypos ⊢
          obtain ⟨b, hb2⟩ : ∃ b, cb.length = b := ⟨_, rfl⟩
          obtain ⟨a12, a3⟩ := ha.app
          obtain ⟨a12, a2⟩ := a12.app
          obtain ⟨a1, a12⟩ := a12.app
          have ai := a12.head.1
          have an := a12.head.2.head.1
          have at_ := a3.head.1
          simp only [List.length_append, List.length_map, List.length_cons, List.length_nil, ho, hb2] at a1 a2 a3 ai an at_ hp hle runx runy hopos hypos ⊢
          rw [onI_none (loop_not c2.1 c2.2).1] at ai
          rw [onI_insI (by decide)] at an at_
          obtain ⟨l1, r1⟩ := runx a1 ⟨hp.len, hp.here, fun j h1 h2 => hp.ins j h1 (by omega), .inl (hp.ins _ (by omega) (by omega))⟩ hv hb
          obtain ⟨E, hE⟩ : ∃ E, E = i + o + 2 + b + 1 := ⟨_, rfl⟩
          obtain ⟨ls2, hls2⟩ : ∃ z, ls ++ [(h, ((i + o : Nat) : Int) + 1)] = z := ⟨_, rfl⟩
          have hba2 : baL ls2 = h := by rw [← hls2]; exact baL_push _ _ _
          obtain ⟨l2, r2⟩ := run_two_at (l := l1) (i := i + o) (h := h + 1) (h' := h) (ls := ls) (ls' := ls2) r1.at_ ai (plain_loop c2.1 c2.2) (.inl (by rw [r1.far _ (by omega)]; exact hp.ins _ (by omega) (by omega))) (by
            rw [ins_loop (by show 35 ≤ (k : Int) + 4 ∧ (k : Int) + 4 ≤ 38; omega) ⟨by rw [base_is]; show 1 ≤ h + 1 - baL ls; omega, by rw [an]; rfl⟩]
            show leadN l1 (i + o + 1) (h + 1 - 1) (ls ++ [(h + 1 - 1, ((i + o : Nat) : Int) + 1)]) = _
            rw [show h + 1 - 1 = h by omega, hls2])
          have hEa : ((o : Int) + 2 + (b : Int) + 1 + (i : Int)).toNat = E := by omega
          have fE : FrP l2 E (h + 1) ls := by
            have := hp.end_
            unfold FrP at this ⊢
            rw [r2.far _ (by omega), r1.far _ (by omega), hE]
            rw [show i + (o + (0 + 1 + 1) + b + (0 + 1)) = i + o + 2 + b + 1 by omega] at this
            exact this
          have f1 : FrP l2 (i + o + 1 + 1) h ls2 := .inl (by rw [r2.far _ (by omega), r1.far _ (by omega)]; exact hp.ins _ (by omega) (by omega))
          have hne2 : ls2 ≠ [] := by rw [← hls2]; simp
          have hnx : (Pl.mk true h ls2).next = ((i + o + 1 : Nat) : Int) := by rw [← hls2]; unfold Pl.next; simp
          have hdl : ls2.dropLast = ls := by rw [← hls2]; simp
          obtain ⟨l3, g1, g2, g3, g4, g5⟩ := go_two (p := ⟨true, h, ls2⟩) (E := E) (h1 := h + 1) (ls1 := ls) (h2 := h) (ls2 := ls2) r2.at_ rfl an (plain_place (by omega) (by omega)) (by omega) fE f1 (by
            rw [ins_next rfl ⟨hne2, hnx, by rw [base_is, hba2]; show h - h = 0; omega, by show ((i + o + 1 : Nat) : Int) < (o : Int) + 2 + (b : Int) + 1 + (i : Int) ∧ (o : Int) + 2 + (b : Int) + 1 + (i : Int) ≤ (c.length : Int); omega⟩]
            show (leadN l2 ((o : Int) + 2 + (b : Int) + 1 + (i : Int)).toNat (baL ls2 + 1) ls2.dropLast).bind (fun l => leadN l (i + o + 1 + 1) (baL ls2) ls2) = _
            rw [hEa, hba2, hdl])
          obtain ⟨l4, r4⟩ := runy (i + o + 1 + 1) l3 h ls2 (by
            have : i + (o + (0 + 1 + 1)) = i + o + 1 + 1 := by omega
            rw [this] at a2
            exact a2) ⟨by rw [g2, r2.len, r1.len, hp.len], g3, fun j h1 h2 => by rw [g5 j (by omega) (by omega), r2.far j (by omega), r1.far j (by omega)]; exact hp.ins j (by omega) (by omega), .inl (by rw [g5 _ (by omega) (by omega), r2.far _ (by omega), r1.far _ (by omega)]; exact hp.ins _ (by omega) (by omega))⟩ (by rw [← hls2]; simp [hv]) (by rw [hba2]; exact Int.le_refl _)
          have at4 : c[i + o + 1 + 1 + b]? = some (insI 40 ((o : Int) + 1 + i)) := by rw [← at_]; congr 1; omega
          have g6 : ∀ q, goN c (1 + q) (i + o + 1 + 1 + b) l4 = goN c q (i + o + 1 + 1 + b + 1) l4 := fun q => go_stepZ r4.at_ at4 rfl (plain_place (by omega) (by omega)) (ins_take rfl ⟨hne2, by
            show (o : Int) + 1 + (i : Int) = (Pl.mk true (h + 1) ls2).next
            rw [show (Pl.mk true (h + 1) ls2).next = (Pl.mk true h ls2).next from rfl, hnx]; omega, by rw [base_is, hba2]; show h + 1 - h = 1; omega⟩) q
          have e4 : l4[E]? = some ⟨true, h + 1, ls⟩ := by rw [r4.far _ (by omega)]; exact g4
          refine ⟨l4, ⟨fun q => ?_, by rw [r4.len, g2, r2.len, r1.len], ?_, fun j hj => ?_⟩⟩
          · rw [show o + (0 + 1 + 1) + b + (0 + 1) + q = o + (1 + (1 + (b + (1 + q)))) by omega, r1.go, r2.go, g1, r4.go, g6]
            congr 1; omega
          · rw [show i + (o + (0 + 1 + 1) + b + (0 + 1)) = E by omega]; exact e4
          · rw [r4.far j (by omega), g5 j (by omega) (by omega), r2.far j (by omega), r1.far j (by omega)]
        · -- two parts, one instruction
          have runy := run_code f y vs 1 hg.2.2.1 (by omega) (by omega) c
          have hypos := cR_pos f y vs 1 hg.2.2.1 (by omega)
          simp only [cR, if_neg c1, if_neg c2, thenN, List.map_append, List.length_append, List.length_map, List.map_cons, List.map_nil, List.length_cons, List.length_nil, map_on2, hov] at ha hp hle runx hopos ⊢
          obtain ⟨o, ho⟩ : ∃ o, ov.length = o := ⟨_, rfl⟩
          obtain ⟨cb, hcb⟩ : ∃ b, cR f y vs 1 = b := ⟨_, rfl⟩
          rw [hcb] at ha hp hle runy hypos ⊢
          obtain ⟨b, hb2⟩ : ∃ b, cb.length = b := ⟨_, rfl⟩
          obtain ⟨a12, a3⟩ := ha.app
          obtain ⟨a1, a2⟩ := a12.app
          have at_ := a3.head.1
          simp only [List.length_append, List.length_map, List.length_cons, List.length_nil, ho, hb2] at a1 a2 a3 at_ hp hle runx runy hopos hypos ⊢
          obtain ⟨p1, p2, p3⟩ := plain_bin hsh (by omega)
          rw [onI_none (x := ⟨sameN k, 0, 0, txt s⟩) (sameN_has (by omega) (by omega) (by omega)).2] at at_
          obtain ⟨l1, r1⟩ := runx a1 ⟨hp.len, hp.here, fun j h1 h2 => hp.ins j h1 (by omega), .inl (hp.ins _ (by omega) (by omega))⟩ hv hb
          obtain ⟨l3, r3⟩ := runy (i + o) l1 (h + 1) ls a2 ⟨by rw [r1.len, hp.len], r1.at_, fun j h1 h2 => by rw [r1.far j (by omega)]; exact hp.ins j (by omega) (by omega), .inl (by rw [r1.far _ (by omega)]; exact hp.ins _ (by omega) (by omega))⟩ hv (by omega)
          have at4 : c[i + o + b]? = some ⟨sameN k, 0, 0, txt s⟩ := by rw [← at_]; congr 1; omega
          obtain ⟨l4, r4⟩ := run_one (h' := h + 1) r3.at_ at4 p1 (by
            have := hp.end_
            unfold FrP at this ⊢
            rw [r3.far _ (by omega), r1.far _ (by omega)]
            rw [show i + (o + b + (0 + 1)) = i + o + b + 1 by omega] at this
            exact this) (by
            rw [ins_bin ⟨p2, p3⟩ (by rw [base_is]; show 2 ≤ h + 1 + 1 - baL ls; omega)]
            show leadN l3 (i + o + b + 1) (h + 1 + 1 - 1) ls = _
            rw [show h + 1 + 1 - 1 = h + 1 by omega])
          have r34 := (r1.trans r3).trans (by rw [Nat.add_assoc] at r4; exact r4)
          exact ⟨l4, by simpa using r34⟩
    · -- if
      subst h1
      simp only [deepL] at hd1
      obtain ⟨ov, hov⟩ : ∃ o, cR f x vs (m + 1) = o := ⟨_, rfl⟩
      have hopos := cR_pos f x vs (m + 1) hg.2.1 (by omega)
      have runx := run_code f x vs (m + 1) hg.2.1 (by omega) (by omega) c i l h ls
      have runy := run_code f y vs 1 hg.2.2.1 (by omega) (by omega) c
      have hypos := cR_pos f y vs 1 hg.2.2.1 (by omega)
      have runz := run_code f z vs 1 hg.2.2.2.1 (by omega) (by omega) c
      have hzpos := cR_pos f z vs 1 hg.2.2.2.1 (by omega)
      simp only [cR, thenN, List.map_append, List.length_append, List.length_map, List.map_cons, List.map_nil, List.length_cons, List.length_nil, map_on2, hov] at ha hp hle runx hopos ⊢
      obtain ⟨o, ho⟩ : ∃ o, ov.length = o := ⟨_, rfl⟩
      obtain ⟨cb, hcb⟩ : ∃ b, cR f y vs 1 = b := ⟨_, rfl⟩
      obtain ⟨cc, hcc⟩ : ∃ b, cR f z vs 1 = b := ⟨_, rfl⟩
      rw [hcb] at ha hp hle runy hypos ⊢
      rw [hcc] at ha hp hle runz hzpos ⊢
      obtain ⟨b, hb2⟩ : ∃ b, cb.length = b := ⟨_, rfl⟩
      obtain ⟨e, he2⟩ : ∃ b, cc.length = b := ⟨_, rfl⟩
      obtain ⟨a12, a4⟩ := ha.app
      obtain ⟨a12, a3⟩ := a12.app
      obtain ⟨a12, a2⟩ := a12.app
      obtain ⟨a1, a12⟩ := a12.app
      have ai := a12.head.1
      have aj := a3.head.1
      simp only [List.length_append, List.length_map, List.length_cons, List.length_nil, ho, hb2, he2] at a1 a2 a4 ai aj hp hle runx runy runz hopos hypos hzpos ⊢
      rw [onI_insI (by decide)] at ai aj
      obtain ⟨l1, r1⟩ := runx a1 ⟨hp.len, hp.here, fun j h1 h2 => hp.ins j h1 (by omega), .inl (hp.ins _ (by omega) (by omega))⟩ hv hb
      obtain ⟨J, hJ⟩ : ∃ J, J = i + o + 1 + b + 1 := ⟨_, rfl⟩
      have hJa : ((o : Int) + 1 + (b : Int) + 1 + (i : Int)).toNat = J := by omega
      have f1 : FrP l1 (i + o + 1) h ls := .inl (by rw [r1.far _ (by omega)]; exact hp.ins _ (by omega) (by omega))
      have fJ : FrP l1 J h ls := .inl (by rw [r1.far _ (by omega)]; exact hp.ins _ (by omega) (by omega))
      obtain ⟨l2, g1, g2, g3, g4, g5⟩ := go_two (p := ⟨true, h + 1, ls⟩) (E := J) (h1 := h) (ls1 := ls) (h2 := h) (ls2 := ls) r1.at_ rfl ai (plain_place (by omega) (by omega)) (by omega) fJ f1 (by
        rw [ins_unless rfl ⟨by rw [base_is]; show 1 ≤ h + 1 - baL ls; omega, by show ((i + o : Nat) : Int) < (o : Int) + 1 + (b : Int) + 1 + (i : Int) ∧ (o : Int) + 1 + (b : Int) + 1 + (i : Int) ≤ (c.length : Int); omega⟩]
        show (leadN l1 ((o : Int) + 1 + (b : Int) + 1 + (i : Int)).toNat (h + 1 - 1) ls).bind (fun l => leadN l (i + o + 1) (h + 1 - 1) ls) = _
        rw [hJa, show h + 1 - 1 = h by omega])
      obtain ⟨l3, r3⟩ := runy (i + o + 1) l2 h ls (by
        have : i + (o + (0 + 1)) = i + o + 1 := by omega
        rw [this] at a2
        exact a2) ⟨by rw [g2, r1.len, hp.len], g3, fun j h1 h2 => by rw [g5 j (by omega) (by omega), r1.far j (by omega)]; exact hp.ins j (by omega) (by omega), .inl (by rw [g5 _ (by omega) (by omega), r1.far _ (by omega)]; exact hp.ins _ (by omega) (by omega))⟩ hv hb
      obtain ⟨E, hE⟩ : ∃ E, E = J + e := ⟨_, rfl⟩
      have hEa : ((o : Int) + 1 + (b : Int) + 1 + (e : Int) + (i : Int)).toNat = E := by omega
      have aj4 : c[i + o + 1 + b]? = some (insI 34 ((o : Int) + 1 + (b : Int) + 1 + (e : Int) + (i : Int))) := by rw [← aj]; congr 1; omega
      have fE : FrP l3 E (h + 1) ls := by
        have := hp.end_
        unfold FrP at this ⊢
        rw [r3.far _ (by omega), g5 _ (by omega) (by omega), r1.far _ (by omega), hE, hJ]
        rw [show i + (o + (0 + 1) + b + (0 + 1) + e) = i + o + 1 + b + 1 + e by omega] at this
        exact this
      obtain ⟨l4, e1, e2, e3, e4⟩ := lead_ok fE
      have g6 : ∀ q, goN c (1 + q) (i + o + 1 + b) l3 = goN c q (i + o + 1 + b + 1) l4 := fun q => go_stepZ r3.at_ aj4 rfl (plain_place (by omega) (by omega)) (by
        rw [ins_jump rfl (by show ((i + o + 1 + b : Nat) : Int) < (o : Int) + 1 + (b : Int) + 1 + (e : Int) + (i : Int) ∧ (o : Int) + 1 + (b : Int) + 1 + (e : Int) + (i : Int) ≤ (c.length : Int); omega)]
        show leadN l3 ((o : Int) + 1 + (b : Int) + 1 + (e : Int) + (i : Int)).toNat (h + 1) ls = _
        rw [hEa, e1]) q
      have e5 : l4[J]? = some ⟨true, h, ls⟩ := by rw [e4 _ (by omega), r3.far _ (by omega)]; exact g4
      obtain ⟨l5, r5⟩ := runz J l4 h ls (by
        have : i + (o + (0 + 1) + b + (0 + 1)) = J := by omega
        rw [this] at a4
        exact a4) ⟨by rw [e2, r3.len, g2, r1.len, hp.len], e5, fun j h1 h2 => by rw [e4 _ (by omega), r3.far _ (by omega), g5 j (by omega) (by omega), r1.far j (by omega)]; exact hp.ins j (by omega) (by omega), .inr (by rw [← hE]; exact e3)⟩ hv hb
      refine ⟨l5, ⟨fun q => ?_, by rw [r5.len, e2, r3.len, g2, r1.len], ?_, fun j hj => ?_⟩⟩
      · rw [show o + (0 + 1) + b + (0 + 1) + e + q = o + (1 + (b + (1 + (e + q)))) by omega, r1.go, g1, r3.go, g6, ← hJ, r5.go]
        congr 1; omega
      · rw [show i + (o + (0 + 1) + b + (0 + 1) + e) = J + e by omega]; exact r5.at_
      · rw [r5.far j (by omega), e4 j (by omega), r3.far j (by omega), g5 j (by omega) (by omega), r1.far j (by omega)]
end Go.Proofs.YtdkoafmgenbkbaaGreatDoor
