/- - - - - - - - -/
import Derived.Test.YtdkoafmgenbkbaaGreatDoorKM7
set_option maxRecDepth 100000
set_option maxHeartbeats 32000000
set_option linter.unusedSimpArgs false
set_option linter.unusedVariables false
namespace Go.Proofs.YtdkoafmgenbkbaaGreatDoor
open Go.RowKit
theorem Own1.cut {α : Type} {W : World} {base size : Nat} {e : TypeId} {R : List Value → α → Prop} {a : Option Addr} {n c : Nat} {l : List α} (h : Own1 W base e size R (.slice a (n + 1) c) l) : Own1 W base e size R (.slice a n c) l.dropLast := by
  obtain ⟨xs, ⟨h1, h2⟩, h3, h4⟩ := h
  rcases h2 with ⟨h2, h5⟩ | ⟨g, cap, cur, r1, r2, r3, r4, r5, r6, r7⟩
  · injection h2 with _ e1; omega
  · injection r1 with e1 e2 e3
    subst e1 e3
    have hl : l.dropLast.length = n := by rw [List.length_dropLast]; omega
    have hle : n * size ≤ l.length * size := Nat.mul_le_mul_right _ (by omega)
    refine ⟨xs.take (n * size), ⟨by rw [hl, List.length_take, h1]; omega, .inr ⟨g, c, cur, by rw [hl], r2, r3, by omega, r5, r6, ?_⟩⟩, by rw [hl, List.length_take, h1]; omega, fun i y hy => ?_⟩
    · rw [hl, ← r7, List.take_take, Nat.min_eq_left hle]
    · have hi : i < n := by
        have := (List.getElem?_eq_some_iff.1 hy).1
        omega
      have hy' : l[i]? = some y := by
        rw [List.getElem?_dropLast] at hy
        split at hy
        · exact hy
        · cases hy
      have := h4 i y hy'
      have hm : i * size + size ≤ n * size := by
        calc i * size + size = (i + 1) * size := by rw [Nat.succ_mul]
          _ ≤ n * size := Nat.mul_le_mul_right _ hi
      rw [List.drop_take, List.take_take, Nat.min_eq_left (by omega)]
      exact this
theorem Own1.setArg {W : World} {base g n c : Nat} {out : List Ins} (h : Own1 W base 42 4 Ins.Is (.slice (some ⟨g, 0, none⟩) n c) out) {i : Nat} (hi : i < out.length) {v : Int} (hv : (Lit.int .i64 v).wf = true) :
    Own1 (W.setCell ⟨g, i * 4 + 1, none⟩ (.int .i64 v)) base 42 4 Ins.Is (.slice (some ⟨g, 0, none⟩) n c) (out.modify i fun x => { x with arg := v }) := by
  obtain ⟨xs, ⟨h1, h2⟩, h3, h4⟩ := h
  rcases h2 with ⟨h2, h5⟩ | ⟨g', cap, cur, r1, r2, r3, r4, r5, r6, r7⟩
  · cases h2
  · injection r1 with e1 e2 e3
    injection e1 with e1
    injection e1 with e1
    subst e1 e3
    have hb : Blk W g 42 cur := r3
    refine ⟨xs.set (i * 4 + 1) (.int .i64 v), ⟨by rw [List.length_set, List.length_modify]; exact h1, .inr ⟨g, c, _, by rw [List.length_modify, e2], r2, hb.set_ (i * 4 + 1) (.int .i64 v), by rw [List.length_modify]; exact r4, r5, by rw [Array.size_setIfInBounds]; exact r6, ?_⟩⟩, by rw [List.length_set, List.length_modify]; exact h3, fun j y hy => ?_⟩
    · rw [List.length_modify, Array.toList_setIfInBounds, List.take_set, r7]
    · rw [List.getElem?_modify] at hy
      obtain ⟨x, hx, rfl⟩ := Option.map_eq_some_iff.1 hy
      have hr := h4 j x hx
      by_cases hji : i = j
      · subst hji
        have e4 : ((xs.set (i * 4 + 1) (.int .i64 v)).drop (i * 4)).take 4 = ((xs.drop (i * 4)).take 4).set 1 (.int .i64 v) := by
          rw [List.drop_set, if_neg (by omega), List.take_set]
          congr 1
          omega
        rw [e4, hr.1]
        simp only [if_true]
        exact ⟨rfl, hr.2.1, hv, hr.2.2.2⟩
      · have e4 : ((xs.set (i * 4 + 1) (.int .i64 v)).drop (j * 4)).take 4 = (xs.drop (j * 4)).take 4 := by
          rw [List.drop_set]
          split
          · rfl
          · rw [List.take_set]
            rw [List.set_eq_of_length_le (by rw [List.length_take]; omega)]
        rw [e4]
        simp only [if_neg hji]
        exact hr
theorem Own1.type {α : Type} {W : World} {base size : Nat} {e : TypeId} {R : List Value → α → Prop} {v : Value} {l : List α} (h : Own1 W base e size R v l) {b : Nat} (hb : v.ownBlock = some b) : ∃ cs, Blk W b e cs := by
  obtain ⟨xs, ⟨h1, h2⟩, h3, h4⟩ := h
  rcases h2 with ⟨h2, h5⟩ | ⟨g, cap, cur, r1, r2, r3, r4, r5, r6, r7⟩
  · subst h2; cases hb
  · subst r1
    injection hb with hb
    subst hb
    exact ⟨cur, r3⟩
def IsTx (x : List Value) (s : List Nat) : Prop := x = [.string (txt s)]
structure MkSt (W : World) (g : Nat) (lv ov vv : Value) (out : List Ins) (vs : List (List Nat)) : Prop where
  blk : Blk W g 79 #[lv, ov, vv]
  own : Own1 W (g + 1) 42 4 Ins.Is ov out
  vown : Own1 W (g + 1) 9 1 IsTx vv vs
structure KT (W w' : World) (g : Nat) : Prop where
  bel : Below g W w'
  typ : ∀ (b : Nat) (t : TypeId) (cs : Array Value), t ≠ 42 → t ≠ 9 → t ≠ 79 → Blk W b t cs → Blk w' b t cs
theorem KT.refl (W : World) (g : Nat) : KT W W g := ⟨zB, fun _ _ _ _ _ _ h => h⟩
theorem KT.trans {W w1 w2 : World} {g : Nat} (h : KT W w1 g) (k : KT w1 w2 g) : KT W w2 g := ⟨h.bel.trans k.bel, fun b t cs h1 h2 h3 hb => k.typ b t cs h1 h2 h3 (h.typ b t cs h1 h2 h3 hb)⟩
theorem Blk.differ {W : World} {b b' : Nat} {t t' : TypeId} {cs cs' : Array Value} (h : Blk W b t cs) (h' : Blk W b' t' cs') (hne : t ≠ t') : b ≠ b' := fun e => by
  subst e
  unfold Blk at h h'
  rw [h] at h'
  injection h' with h'
  injection h' with _ e2 _
  exact hne e2
theorem KT.of_below {W w' : World} {g : Nat} (h : Below W.heap.size W w') (hg : g ≤ W.heap.size) : KT W w' g := ⟨h.mono hg, fun b t cs _ _ _ hb => hb.below h hb.lt⟩
theorem KT.set_ {W : World} {g b : Nat} {t : TypeId} {cs : Array Value} (hb : Blk W b t cs) (hg : g ≤ b) (ht : t = 42 ∨ t = 9 ∨ t = 79) (i : Nat) (u : Value) : KT W (W.setCell ⟨b, i, none⟩ u) g :=
  ⟨zB.setCell (p := ⟨b, i, none⟩) hg u, fun b' t' cs' h1 h2 h3 hb' => hb'.far (p := ⟨b, i, none⟩) (hb'.differ hb (by rcases ht with rfl | rfl | rfl <;> assumption)) u⟩
theorem KT.grown {W w' : World} {g : Nat} {α : Type} {base size : Nat} {e : TypeId} {R : List Value → α → Prop} {v : Value} {l : List α} (h : Own1 W base e size R v l) (hg : g ≤ base) (hgs : g ≤ W.heap.size) (he : e = 42 ∨ e = 9) (hgr : W.grownBy w' v.ownBlock) : KT W w' g := by
  refine ⟨(Below.refl g W).grown hgr hgs (fun b hb => Nat.le_trans hg (h.block b hb).1), fun b t cs h1 h2 h3 hb => hb.grown hgr ?_⟩
  intro e'
  obtain ⟨cs', hc⟩ := h.type e'.symm
  exact hb.differ hc (by rcases he with rfl | rfl <;> assumption) rfl
section
variable {W w5 : World} {g : Nat} {lv ov vv nv : Value} {out : List Ins} {vs : List (List Nat)}
theorem MkSt.lt (h : MkSt W g lv ov vv out vs) : g < W.heap.size := h.blk.lt
theorem MkSt.below (h : MkSt W g lv ov vv out vs) {w' : World} (hb : Below W.heap.size W w') : MkSt w' g lv ov vv out vs := ⟨h.blk.below hb h.blk.lt, h.own.below hb zL, h.vown.below hb zL⟩
theorem MkSt.alloc (h : MkSt W g lv ov vv out vs) (o : Obj) : MkSt (W.alloc o) g lv ov vv out vs := ⟨h.blk.alloc o, h.own.alloc o, h.vown.alloc o⟩
theorem MkSt.drew (h : MkSt W g lv ov vv out vs) : MkSt W.drew g lv ov vv out vs := ⟨h.blk, h.own, h.vown⟩
theorem MkSt.drewN (h : MkSt W g lv ov vv out vs) (n : Nat) : MkSt (W.drewN n) g lv ov vv out vs := ⟨h.blk, h.own, h.vown⟩
theorem MkSt.push (h : MkSt W g lv ov vv out vs) {x : Ins} (hown : Own1 w5 (g + 1) 42 4 Ins.Is nv (out ++ [x])) (hgr : W.grownBy w5 ov.ownBlock) :
    MkSt (w5.setCell ⟨g, 1, none⟩ nv) g lv nv vv (out ++ [x]) vs ∧ KT W (w5.setCell ⟨g, 1, none⟩ nv) g := by
  have hl := h.lt
  have hne : ∀ b, b < g + 1 → some b ≠ ov.ownBlock := fun b hb e => by have := (h.own.block b e.symm).1; omega
  have b5 : Blk w5 g 79 #[lv, ov, vv] := h.blk.grown hgr (hne g (by omega))
  have v5 := h.vown.kept1 h.own (by decide) hgr
  refine ⟨⟨by have := b5.set_ 1 nv; simpa using this, hown.setFar (p := ⟨g, 1, none⟩) (by show g < g + 1; omega) _, v5.setFar (p := ⟨g, 1, none⟩) (by show g < g + 1; omega) _⟩, ?_⟩
  exact (KT.grown h.own (by omega) (by omega) (.inl rfl) hgr).trans (KT.set_ b5 zL (.inr (.inr rfl)) 1 nv)
theorem MkSt.vpush (h : MkSt W g lv ov vv out vs) {s : List Nat} (hown : Own1 w5 (g + 1) 9 1 IsTx nv (vs ++ [s])) (hgr : W.grownBy w5 vv.ownBlock) :
    MkSt (w5.setCell ⟨g, 2, none⟩ nv) g lv ov nv out (vs ++ [s]) ∧ KT W (w5.setCell ⟨g, 2, none⟩ nv) g := by
  have hl := h.lt
  have hne : ∀ b, b < g + 1 → some b ≠ vv.ownBlock := fun b hb e => by have := (h.vown.block b e.symm).1; omega
  have b5 : Blk w5 g 79 #[lv, ov, vv] := h.blk.grown hgr (hne g (by omega))
  have o5 := h.own.kept1 h.vown (by decide) hgr
  refine ⟨⟨by have := b5.set_ 2 nv; simpa using this, o5.setFar (p := ⟨g, 2, none⟩) (by show g < g + 1; omega) _, hown.setFar (p := ⟨g, 2, none⟩) (by show g < g + 1; omega) _⟩, ?_⟩
  exact (KT.grown h.vown (by omega) (by omega) (.inr rfl) hgr).trans (KT.set_ b5 zL (.inr (.inr rfl)) 2 nv)
theorem MkSt.vpop {a : Option Addr} {n c : Nat} (h : MkSt W g lv ov (.slice a (n + 1) c) out vs) :
    MkSt (W.setCell ⟨g, 2, none⟩ (.slice a n c)) g lv ov (.slice a n c) out vs.dropLast ∧ KT W (W.setCell ⟨g, 2, none⟩ (.slice a n c)) g := by
  refine ⟨⟨by have := h.blk.set_ 2 (.slice a n c); simpa using this, h.own.setFar (p := ⟨g, 2, none⟩) (by show g < g + 1; omega) _, h.vown.cut.setFar (p := ⟨g, 2, none⟩) (by show g < g + 1; omega) _⟩, KT.set_ h.blk zL (.inr (.inr rfl)) 2 _⟩
theorem MkSt.arg {b n c : Nat} (h : MkSt W g lv (.slice (some ⟨b, 0, none⟩) n c) vv out vs) {i : Nat} (hi : i < out.length) {v : Int} (hv : (Lit.int .i64 v).wf = true) :
    MkSt (W.setCell ⟨b, i * 4 + 1, none⟩ (.int .i64 v)) g lv (.slice (some ⟨b, 0, none⟩) n c) vv (out.modify i fun x => { x with arg := v }) vs ∧ KT W (W.setCell ⟨b, i * 4 + 1, none⟩ (.int .i64 v)) g := by
  obtain ⟨cs, hb⟩ := h.own.type (b := b) rfl
  have hbg := (h.own.block b rfl).1
  have hvb : ∀ b', vv.ownBlock = some b' → b' ≠ b := fun b' e => by
    obtain ⟨cs', hc⟩ := h.vown.type e
    exact hc.differ hb (by decide)
  refine ⟨⟨h.blk.far (p := ⟨b, i * 4 + 1, none⟩) (by show g ≠ b; omega) _, h.own.setArg hi hv, ?_⟩, KT.set_ hb (by omega) (.inl rfl) _ _⟩
  obtain ⟨xs, h1, h2⟩ := h.vown
  exact ⟨xs, ownsRow_setCell_other h1 (a := ⟨b, i * 4 + 1, none⟩) (fun e => hvb b e rfl) _, h2⟩
end
end Go.Proofs.YtdkoafmgenbkbaaGreatDoor
namespace Go.Proofs.YtdkoafmgenbkbaaGreatDoor
def insI (op arg : Int) : Ins := ⟨op, arg, 0, ⟨#[]⟩⟩
def stepI (out : List Ins) : List Ins :=
  match out.getLast? with
  | some x => if x.op = 1 then out.dropLast ++ [⟨x.op, x.arg + 1, x.int, x.text⟩] else out ++ [insI 1 1]
  | none => out ++ [insI 1 1]
def sameN (k : Nat) : Int := if 3 ≤ k ∧ k ≤ 6 then k + 1 else if 8 ≤ k ∧ k ≤ 26 then k + 2 else 29
def varI (vs : List (List Nat)) (s : List Nat) : Ins := match vs.reverse.findIdx? (fun x => decide (x = s)) with | some i => insI 8 i | none => insI 9 0
def leafI (k : Nat) (s : List Nat) (n : Int) (vs : List (List Nat)) : Ins := if k = 1 then ⟨2, 0, n, ⟨#[]⟩⟩ else if k = 2 then ⟨3, 0, 0, txt s⟩ else if k = 7 then varI vs s else ⟨sameN k, 0, 0, txt s⟩
def endI (out : List Ins) (i : Nat) : List Ins := out.modify i fun x => { x with arg := (out.length : Int) }
def cP : Nat → Tr → List (List Nat) → List Ins → List Ins
  | 0, _, _, out => out
  | f + 1, .node k s n ks, vs, out => match ks with
    | [] => stepI out ++ [leafI k s n vs]
    | [a] => cP f a vs (stepI out) ++ [⟨sameN k, 0, 0, txt s⟩]
    | [a, b] =>
      let o1 := cP f a vs (stepI out)
      if k = 27 ∨ k = 28 then endI (cP f b vs (o1 ++ [insI (k + 3) 0]) ++ [insI 32 0]) o1.length
      else if 31 ≤ k ∧ k ≤ 34 then endI (cP f b (vs ++ [s]) (o1 ++ [insI (k + 4) 0] ++ [insI 39 0]) ++ [insI 40 (o1.length + 1)]) (o1.length + 1)
      else cP f b vs o1 ++ [⟨sameN k, 0, 0, txt s⟩]
    | [a, b, c] =>
      let o1 := cP f a vs (stepI out)
      let o2 := cP f b vs (o1 ++ [insI 33 0])
      endI (cP f c vs (endI (o2 ++ [insI 34 0]) o1.length)) o2.length
    | _ => out
def onI (n : Nat) (x : Ins) : Ins := if hasN x.op = 5 then { x with arg := x.arg + n } else x
def thenN (a b : List Ins) : List Ins := a ++ b.map (onI a.length)
def cR : Nat → Tr → List (List Nat) → Int → List Ins
  | 0, _, _, _ => []
  | f + 1, .node k s n ks, vs, m => match ks with
    | [] => [insI 1 m, leafI k s n vs]
    | [a] => cR f a vs (m + 1) ++ [⟨sameN k, 0, 0, txt s⟩]
    | [a, b] =>
      let o := cR f a vs (m + 1)
      if k = 27 ∨ k = 28 then thenN (o ++ [insI (k + 3) (o.length + 1 + (cR f b vs 1).length + 1)]) (cR f b vs 1) ++ [insI 32 0]
      else if 31 ≤ k ∧ k ≤ 34 then thenN (o ++ [insI (k + 4) 0, insI 39 (o.length + 2 + (cR f b (vs ++ [s]) 1).length + 1)]) (cR f b (vs ++ [s]) 1) ++ [insI 40 (o.length + 1)]
      else thenN o (cR f b vs 1) ++ [⟨sameN k, 0, 0, txt s⟩]
    | [a, b, c] =>
      let o := cR f a vs (m + 1)
      let y : Int := o.length + 1 + (cR f b vs 1).length + 1
      thenN (thenN (o ++ [insI 33 y]) (cR f b vs 1) ++ [insI 34 (y + (cR f c vs 1).length)]) (cR f c vs 1)
    | _ => []
theorem onI_op (n : Nat) (x : Ins) : (onI n x).op = x.op := by unfold onI; split <;> rfl
theorem onI_on (a b : Nat) (x : Ins) : onI a (onI b x) = onI (a + b) x := by
  unfold onI
  by_cases h : hasN x.op = 5
  · simp only [h, if_true]
    congr 1
    omega
  · simp only [if_neg h]
theorem thenN_len (a b : List Ins) : (thenN a b).length = a.length + b.length := by simp [thenN]
theorem thenN_then (a b c : List Ins) : thenN (thenN a b) c = thenN a (thenN b c) := by
  unfold thenN
  rw [List.map_append, List.map_map, List.append_assoc, List.length_append, List.length_map]
  congr 2
  exact List.map_congr_left fun x _ => (onI_on _ _ _).symm
theorem thenN_app (a b c : List Ins) : thenN a (b ++ c) = thenN a b ++ c.map (onI a.length) := by simp [thenN, List.append_assoc]
def preI (out : List Ins) : List Ins := match out.getLast? with | some x => if x.op = 1 then out.dropLast else out | none => out
def cntI (out : List Ins) : Int := match out.getLast? with | some x => if x.op = 1 then x.arg else 0 | none => 0
def StepsOk (out : List Ins) : Prop := ∀ x, out.getLast? = some x → x.op = 1 → x.int = 0 ∧ x.text = ⟨#[]⟩
theorem pre_other {out : List Ins} {x : Ins} (h : x.op ≠ 1) : preI (out ++ [x]) = out ++ [x] ∧ cntI (out ++ [x]) = 0 ∧ StepsOk (out ++ [x]) := by
  unfold preI cntI StepsOk
  rw [List.getLast?_concat]
  exact ⟨if_neg h, if_neg h, fun y hy hy1 => by injection hy with hy; subst hy; exact absurd hy1 h⟩
theorem step_eq {out : List Ins} (h : StepsOk out) : stepI out = preI out ++ [insI 1 (cntI out + 1)] ∧ preI (stepI out) = preI out ∧ cntI (stepI out) = cntI out + 1 ∧ StepsOk (stepI out) := by
  have key : stepI out = preI out ++ [insI 1 (cntI out + 1)] := by
    unfold stepI preI cntI
    rcases hl : out.getLast? with _ | x
    · rfl
    · by_cases h1 : x.op = 1
      · obtain ⟨h2, h3⟩ := h x hl h1
        simp only [if_pos h1]
        congr 1
        unfold insI
        rw [h1, h2, h3]
      · simp only [if_neg h1]
        rfl
  refine ⟨key, ?_, ?_, ?_⟩
  · rw [key]
    unfold preI
    rw [List.getLast?_concat]
    show (if (1 : Int) = 1 then _ else _) = _
    rw [if_pos rfl, List.dropLast_concat]
  · rw [key]
    unfold cntI
    rw [List.getLast?_concat]
    show (if (1 : Int) = 1 then _ else _) = _
    rw [if_pos rfl]
    rfl
  · rw [key]
    intro x hx _
    rw [List.getLast?_concat] at hx
    injection hx with hx
    subst hx
    exact ⟨rfl, rfl⟩
theorem then_nil (b : List Ins) : thenN [] b = b := by
  unfold thenN
  rw [List.nil_append]
  conv => rhs; rw [← List.map_id b]
  exact List.map_congr_left fun x _ => by unfold onI; split <;> simp
theorem sameN_has {k : Nat} (h1 : k ≠ 27) (h2 : k ≠ 28) (h3 : k < 30) : sameN k ≠ 1 ∧ hasN (sameN k) ≠ 5 := by
  have : k = 0 ∨ k = 1 ∨ k = 2 ∨ k = 3 ∨ k = 4 ∨ k = 5 ∨ k = 6 ∨ k = 7 ∨ k = 8 ∨ k = 9 ∨ k = 10 ∨ k = 11 ∨ k = 12 ∨ k = 13 ∨ k = 14 ∨ k = 15 ∨ k = 16 ∨ k = 17 ∨ k = 18 ∨ k = 19 ∨ k = 20 ∨ k = 21 ∨ k = 22 ∨ k = 23 ∨ k = 24 ∨ k = 25 ∨ k = 26 ∨ k = 29 := by omega
  rcases this with rfl | rfl | rfl | rfl | rfl | rfl | rfl | rfl | rfl | rfl | rfl | rfl | rfl | rfl | rfl | rfl | rfl | rfl | rfl | rfl | rfl | rfl | rfl | rfl | rfl | rfl | rfl | rfl
  all_goals decide
end Go.Proofs.YtdkoafmgenbkbaaGreatDoor
namespace Go.Proofs.YtdkoafmgenbkbaaGreatDoor
open Go.RowKit
theorem p_kids (k : Int) (W : World) : Calls Tryz.prog 46 #[.int .i64 k] W fun e w' => e = .returned (.int .i64 (kidsN k)) ∧ w' = W := by
  rcases (show (k < 1) ∨ (1 ≤ k ∧ k ≤ 7) ∨ (8 ≤ k ∧ k ≤ 19) ∨ (20 ≤ k ∧ k ≤ 28) ∨ (k = 29) ∨ (k = 30) ∨ (31 ≤ k ∧ k ≤ 34) ∨ (34 < k) by omega) with h | h | h | h | h | h | h | h
  · have hv : kidsN k = -1 := by unfold kidsN; (repeat' split) <;> omega
    rw [hv]
    have t0 : decide (1 ≤ k) = false := by simp; omega
    have t1 : decide (k ≤ 7) = true := by simp; omega
    have t2 : decide (8 ≤ k) = false := by simp; omega
    have t3 : decide (k ≤ 19) = true := by simp; omega
    have t4 : decide (20 ≤ k) = false := by simp; omega
    have t5 : decide (k ≤ 28) = true := by simp; omega
    have t6 : decide (31 ≤ k) = false := by simp; omega
    have t7 : decide (k ≤ 34) = true := by simp; omega
    have q29 : (k == 29) = false := by simp; omega
    have q30 : (k == 30) = false := by simp; omega
    clear hv h
    go_enter Tryz.func46, Tryz.ntmps46
    go_wp2_with fail
    go_ret
    exact ⟨rfl, rfl⟩
  · have hv : kidsN k = 0 := by unfold kidsN; (repeat' split) <;> omega
    rw [hv]
    have t0 : decide (1 ≤ k) = true := by simp; omega
    have t1 : decide (k ≤ 7) = true := by simp; omega
    have t2 : decide (8 ≤ k) = false := by simp; omega
    have t3 : decide (k ≤ 19) = true := by simp; omega
    have t4 : decide (20 ≤ k) = false := by simp; omega
    have t5 : decide (k ≤ 28) = true := by simp; omega
    have t6 : decide (31 ≤ k) = false := by simp; omega
    have t7 : decide (k ≤ 34) = true := by simp; omega
    have q29 : (k == 29) = false := by simp; omega
    have q30 : (k == 30) = false := by simp; omega
    clear hv h
    go_enter Tryz.func46, Tryz.ntmps46
    go_wp2_with fail
    go_ret
    exact ⟨rfl, rfl⟩
  · have hv : kidsN k = 1 := by unfold kidsN; (repeat' split) <;> omega
    rw [hv]
    have t0 : decide (1 ≤ k) = true := by simp; omega
    have t1 : decide (k ≤ 7) = false := by simp; omega
    have t2 : decide (8 ≤ k) = true := by simp; omega
    have t3 : decide (k ≤ 19) = true := by simp; omega
    have t4 : decide (20 ≤ k) = false := by simp; omega
    have t5 : decide (k ≤ 28) = true := by simp; omega
    have t6 : decide (31 ≤ k) = false := by simp; omega
    have t7 : decide (k ≤ 34) = true := by simp; omega
    have q29 : (k == 29) = false := by simp; omega
    have q30 : (k == 30) = false := by simp; omega
    clear hv h
    go_enter Tryz.func46, Tryz.ntmps46
    go_wp2_with fail
    go_ret
    exact ⟨rfl, rfl⟩
  · have hv : kidsN k = 2 := by unfold kidsN; (repeat' split) <;> omega
    rw [hv]
    have t0 : decide (1 ≤ k) = true := by simp; omega
    have t1 : decide (k ≤ 7) = false := by simp; omega
    have t2 : decide (8 ≤ k) = true := by simp; omega
    have t3 : decide (k ≤ 19) = false := by simp; omega
    have t4 : decide (20 ≤ k) = true := by simp; omega
    have t5 : decide (k ≤ 28) = true := by simp; omega
    have t6 : decide (31 ≤ k) = false := by simp; omega
    have t7 : decide (k ≤ 34) = true := by simp; omega
    have q29 : (k == 29) = false := by simp; omega
    have q30 : (k == 30) = false := by simp; omega
    clear hv h
    go_enter Tryz.func46, Tryz.ntmps46
    go_wp2_with fail
    go_ret
    exact ⟨rfl, rfl⟩
  · have hv : kidsN k = 1 := by unfold kidsN; subst h; decide
    rw [hv]
    subst h
    clear hv
    go_enter Tryz.func46, Tryz.ntmps46
    go_wp2_with fail
    go_ret
    exact ⟨rfl, rfl⟩
  · have hv : kidsN k = 3 := by unfold kidsN; subst h; decide
    rw [hv]
    subst h
    clear hv
    go_enter Tryz.func46, Tryz.ntmps46
    go_wp2_with fail
    go_ret
    exact ⟨rfl, rfl⟩
  · have hv : kidsN k = 2 := by unfold kidsN; (repeat' split) <;> omega
    rw [hv]
    have t0 : decide (1 ≤ k) = true := by simp; omega
    have t1 : decide (k ≤ 7) = false := by simp; omega
    have t2 : decide (8 ≤ k) = true := by simp; omega
    have t3 : decide (k ≤ 19) = false := by simp; omega
    have t4 : decide (20 ≤ k) = true := by simp; omega
    have t5 : decide (k ≤ 28) = false := by simp; omega
    have t6 : decide (31 ≤ k) = true := by simp; omega
    have t7 : decide (k ≤ 34) = true := by simp; omega
    have q29 : (k == 29) = false := by simp; omega
    have q30 : (k == 30) = false := by simp; omega
    clear hv h
    go_enter Tryz.func46, Tryz.ntmps46
    go_wp2_with fail
    go_ret
    exact ⟨rfl, rfl⟩
  · have hv : kidsN k = -1 := by unfold kidsN; (repeat' split) <;> omega
    rw [hv]
    have t0 : decide (1 ≤ k) = true := by simp; omega
    have t1 : decide (k ≤ 7) = false := by simp; omega
    have t2 : decide (8 ≤ k) = true := by simp; omega
    have t3 : decide (k ≤ 19) = false := by simp; omega
    have t4 : decide (20 ≤ k) = true := by simp; omega
    have t5 : decide (k ≤ 28) = false := by simp; omega
    have t6 : decide (31 ≤ k) = true := by simp; omega
    have t7 : decide (k ≤ 34) = false := by simp; omega
    have q29 : (k == 29) = false := by simp; omega
    have q30 : (k == 30) = false := by simp; omega
    clear hv h
    go_enter Tryz.func46, Tryz.ntmps46
    go_wp2_with fail
    go_ret
    exact ⟨rfl, rfl⟩
theorem p_named (k : Int) (W : World) : Calls Tryz.prog 47 #[.int .i64 k] W fun e w' => e = .returned (.bool (decide (k ∈ namedL))) ∧ w' = W := by
  by_cases h : k ∈ namedL
  · rw [decide_eq_true h]
    simp only [namedL, List.mem_cons, List.not_mem_nil, or_false] at h
    rcases h with rfl | rfl | rfl | rfl | rfl | rfl | rfl | rfl | rfl | rfl
    · go_enter Tryz.func47, Tryz.ntmps47
      go_wp2_with fail
      go_ret
      exact ⟨rfl, rfl⟩
    · go_enter Tryz.func47, Tryz.ntmps47
      go_wp2_with fail
      go_ret
      exact ⟨rfl, rfl⟩
    · go_enter Tryz.func47, Tryz.ntmps47
      go_wp2_with fail
      go_ret
      exact ⟨rfl, rfl⟩
    · go_enter Tryz.func47, Tryz.ntmps47
      go_wp2_with fail
      go_ret
      exact ⟨rfl, rfl⟩
    · go_enter Tryz.func47, Tryz.ntmps47
      go_wp2_with fail
      go_ret
      exact ⟨rfl, rfl⟩
    · go_enter Tryz.func47, Tryz.ntmps47
      go_wp2_with fail
      go_ret
      exact ⟨rfl, rfl⟩
    · go_enter Tryz.func47, Tryz.ntmps47
      go_wp2_with fail
      go_ret
      exact ⟨rfl, rfl⟩
    · go_enter Tryz.func47, Tryz.ntmps47
      go_wp2_with fail
      go_ret
      exact ⟨rfl, rfl⟩
    · go_enter Tryz.func47, Tryz.ntmps47
      go_wp2_with fail
      go_ret
      exact ⟨rfl, rfl⟩
    · go_enter Tryz.func47, Tryz.ntmps47
      go_wp2_with fail
      go_ret
      exact ⟨rfl, rfl⟩
  · rw [decide_eq_false h]
    simp only [namedL, List.mem_cons, List.not_mem_nil, or_false, not_or] at h
    obtain ⟨h7, h8, h9, h10, h12, h13, h31, h32, h33, h34⟩ := h
    have q7 : (k == 7) = false := by simpa using h7
    have q8 : (k == 8) = false := by simpa using h8
    have q9 : (k == 9) = false := by simpa using h9
    have q10 : (k == 10) = false := by simpa using h10
    have q12 : (k == 12) = false := by simpa using h12
    have q13 : (k == 13) = false := by simpa using h13
    have q31 : (k == 31) = false := by simpa using h31
    have q32 : (k == 32) = false := by simpa using h32
    have q33 : (k == 33) = false := by simpa using h33
    have q34 : (k == 34) = false := by simpa using h34
    clear h7 h8 h9 h10 h12 h13 h31 h32 h33 h34
    go_enter Tryz.func47, Tryz.ntmps47
    go_wp2_with fail
    go_ret
    exact ⟨rfl, rfl⟩
end Go.Proofs.YtdkoafmgenbkbaaGreatDoor
namespace Go.Proofs.YtdkoafmgenbkbaaGreatDoor
open Go.RowKit
theorem right_len {s : List Nat} (h : rightN s = true) : s.length ≤ 32 := by
  unfold rightN at h
  split at h
  · cases h
  · rw [Bool.and_eq_true, Bool.and_eq_true] at h
    exact of_decide_eq_true h.1.1
theorem join_name (s : List Nat) : (joinN [⟨3, s, 0, 0⟩]).2 = if rightN s && !decide (s ∈ wordsL) then 0 else 2 := by
  have hm : ([⟨3, s, 0, 0⟩] : List Tok).all mayN = (rightN s && !decide (s ∈ wordsL)) := by simp [mayN]
  unfold joinN
  rw [hm]
  by_cases h : (rightN s && !decide (s ∈ wordsL)) = true
  · rw [if_pos h, if_pos h]
    have hl : (joinAll [] true [(⟨3, s, 0, 0⟩ : Tok)]).length ≤ 4096 := by
      rw [Bool.and_eq_true] at h
      have := right_len h.1
      simp [joinAll, shownN]
      omega
    rw [if_neg (by omega)]
  · rw [if_neg h, if_neg h]
theorem p_plain (s : List Nat) (hb : Bytes s) (hl : s.length ≤ 140737488355328) (w : World) (hm : Marks w) (hp : Pow w) : Calls Tryz.prog 48 #[.string (txt s)] w fun e w' => e = .returned (.bool (plain8N s)) ∧ Below w.heap.size w w' := by
  have hok : Tok.ok ⟨3, s, 0, 0⟩ := ⟨hb, by show s.length ≤ maxLen; unfold maxLen; omega, by show (Lit.int .i64 3).wf = true; decide, by show (Lit.int .i64 0).wf = true; decide, by show (Lit.int .i64 0).wf = true; decide⟩
  have B0 : Below w.heap.size w (w.alloc (.cells #[.int .i64 3, .string (txt s), .int .i64 0, .int .i64 0] 127)) := zB.alloc zL _
  have hw1 : SlR (w.alloc (.cells #[.int .i64 3, .string (txt s), .int .i64 0, .int .i64 0] 127)) (w.alloc (.cells #[.int .i64 3, .string (txt s), .int .i64 0, .int .i64 0] 127)).heap.size 4 Tok.Is (.slice (some ⟨w.heap.size, 0, none⟩) 1 1) [⟨3, s, 0, 0⟩] := (SlR.new1 (x := [.int .i64 3, .string (txt s), .int .i64 0, .int .i64 0]) rfl rfl ⟨rfl, hok⟩).more (by simp)
  have JN := zH (join_any _ _ hw1 zB (fun t ht => by simp at ht; subst ht; simp only; omega) (hm.below B0) (hp.below B0))
  rw [join_name] at JN
  have RT : Hid (∀ W, Calls Tryz.prog 35 #[.string (txt s)] W fun e w' => e = .returned (.bool (rightN s)) ∧ Quiet W w') := zH (fun W => by have h0 := right_any (txt s) (by rw [txt_size]; unfold maxLen; omega) W; rw [bs_txt hb] at h0; exact h0)
  have HB0 := zH B0
  unfold plain8N
  obtain ⟨r, hr⟩ : ∃ r, rightN s = r := ⟨_, rfl⟩
  obtain ⟨d, hd⟩ : ∃ d, decide (s ∈ wordsL) = d := ⟨_, rfl⟩
  rw [hr, hd] at JN ⊢
  rw [hr] at RT
  clear hm hp hw1 B0 hok hr hd hb hl
  cases r <;> cases d
  · have JX : Hid (Calls Tryz.prog 62 #[.slice (some ⟨w.heap.size, 0, none⟩) 1 1] (w.alloc (.cells #[.int .i64 3, .string (txt s), .int .i64 0, .int .i64 0] 127)) fun e w' => (∃ v, e = .returned (.tuple #[.string v, .int .i64 2])) ∧ Below (w.alloc (.cells #[.int .i64 3, .string (txt s), .int .i64 0, .int .i64 0] 127)).heap.size (w.alloc (.cells #[.int .i64 3, .string (txt s), .int .i64 0, .int .i64 0] 127)) w') := zH (JN.out.mono fun e w' ⟨he, hb⟩ => ⟨⟨_, he⟩, hb⟩)
    clear JN
    go_enter Tryz.func48, Tryz.ntmps48
    go_wp2_with (first
      | (go_at_call 62; refine JX.out.mono ?_; rintro e w1 ⟨⟨v, rfl⟩, b1⟩; have B1 := zH b1; clear b1)
      | (go_at_call 35; refine (RT.out _).mono ?_; rintro e w2 ⟨rfl, q2⟩; have Q2 := zH q2; clear q2))
    go_ret
    exact ⟨rfl, (HB0.out.trans (B1.out.mono HB0.out.size)).trans (Q2.out.below _)⟩
  · have JX : Hid (Calls Tryz.prog 62 #[.slice (some ⟨w.heap.size, 0, none⟩) 1 1] (w.alloc (.cells #[.int .i64 3, .string (txt s), .int .i64 0, .int .i64 0] 127)) fun e w' => (∃ v, e = .returned (.tuple #[.string v, .int .i64 2])) ∧ Below (w.alloc (.cells #[.int .i64 3, .string (txt s), .int .i64 0, .int .i64 0] 127)).heap.size (w.alloc (.cells #[.int .i64 3, .string (txt s), .int .i64 0, .int .i64 0] 127)) w') := zH (JN.out.mono fun e w' ⟨he, hb⟩ => ⟨⟨_, he⟩, hb⟩)
    clear JN
    go_enter Tryz.func48, Tryz.ntmps48
    go_wp2_with (first
      | (go_at_call 62; refine JX.out.mono ?_; rintro e w1 ⟨⟨v, rfl⟩, b1⟩; have B1 := zH b1; clear b1)
      | (go_at_call 35; refine (RT.out _).mono ?_; rintro e w2 ⟨rfl, q2⟩; have Q2 := zH q2; clear q2))
    go_ret
    exact ⟨rfl, (HB0.out.trans (B1.out.mono HB0.out.size)).trans (Q2.out.below _)⟩
  · have JX : Hid (Calls Tryz.prog 62 #[.slice (some ⟨w.heap.size, 0, none⟩) 1 1] (w.alloc (.cells #[.int .i64 3, .string (txt s), .int .i64 0, .int .i64 0] 127)) fun e w' => (∃ v, e = .returned (.tuple #[.string v, .int .i64 0])) ∧ Below (w.alloc (.cells #[.int .i64 3, .string (txt s), .int .i64 0, .int .i64 0] 127)).heap.size (w.alloc (.cells #[.int .i64 3, .string (txt s), .int .i64 0, .int .i64 0] 127)) w') := zH (JN.out.mono fun e w' ⟨he, hb⟩ => ⟨⟨_, he⟩, hb⟩)
    clear JN
    go_enter Tryz.func48, Tryz.ntmps48
    go_wp2_with (first
      | (go_at_call 62; refine JX.out.mono ?_; rintro e w1 ⟨⟨v, rfl⟩, b1⟩; have B1 := zH b1; clear b1)
      | (go_at_call 35; refine (RT.out _).mono ?_; rintro e w2 ⟨rfl, q2⟩; have Q2 := zH q2; clear q2))
    go_ret
    exact ⟨rfl, (HB0.out.trans (B1.out.mono HB0.out.size)).trans (Q2.out.below _)⟩
  · have JX : Hid (Calls Tryz.prog 62 #[.slice (some ⟨w.heap.size, 0, none⟩) 1 1] (w.alloc (.cells #[.int .i64 3, .string (txt s), .int .i64 0, .int .i64 0] 127)) fun e w' => (∃ v, e = .returned (.tuple #[.string v, .int .i64 2])) ∧ Below (w.alloc (.cells #[.int .i64 3, .string (txt s), .int .i64 0, .int .i64 0] 127)).heap.size (w.alloc (.cells #[.int .i64 3, .string (txt s), .int .i64 0, .int .i64 0] 127)) w') := zH (JN.out.mono fun e w' ⟨he, hb⟩ => ⟨⟨_, he⟩, hb⟩)
    clear JN
    go_enter Tryz.func48, Tryz.ntmps48
    go_wp2_with (first
      | (go_at_call 62; refine JX.out.mono ?_; rintro e w1 ⟨⟨v, rfl⟩, b1⟩; have B1 := zH b1; clear b1)
      | (go_at_call 35; refine (RT.out _).mono ?_; rintro e w2 ⟨rfl, q2⟩; have Q2 := zH q2; clear q2))
    go_ret
    exact ⟨rfl, (HB0.out.trans (B1.out.mono HB0.out.size)).trans (Q2.out.below _)⟩
theorem mayE_def (k : Int) (s : List Nat) (n : Int) (ks : List Int) : mayE ⟨k, s, n, ks⟩ = (decide (kidsN k = (ks.length : Int)) && !(decide (n ≠ 0) && decide (k ≠ 1)) && !decide (n = -9223372036854775808) && (if k ∈ namedL then plain8N s else decide (s = []) || (decide (k = 2) && decide (s.length ≤ 4096)))) := rfl
theorem p_may (k : Int) (s : List Nat) (n : Int) (ks : List Int) (ka : Option Addr) (kn kc : Nat) (hkn : kn = ks.length) (hk63 : kn ≤ 9223372036854775807) (hb : Bytes s) (hl : s.length ≤ 140737488355328) (w : World) (hm : Marks w) (hp : Pow w) :
    Calls Tryz.prog 28 #[.agg #[.int .i64 k, .string (txt s), .int .i64 n, .slice ka kn kc]] w fun e w' => e = .returned (.bool (mayE ⟨k, s, n, ks⟩)) ∧ Below w.heap.size w w' := by
  rw [mayE_def, ← hkn]
  have BX : Hid (Below w.heap.size w (w.alloc (.cells #[.int .i64 k, .string (txt s), .int .i64 n, .slice ka kn kc] 45))) := zH (zB.alloc zL _)
  have PN : Hid (∀ W, Below w.heap.size w W → Calls Tryz.prog 48 #[.string (txt s)] W fun e w' => e = .returned (.bool (plain8N s)) ∧ Below W.heap.size W w') := zH (fun W hW => p_plain s hb hl W (hm.below hW) (hp.below hW))
  have KD : Hid (∀ W, Calls Tryz.prog 46 #[.int .i64 k] W fun e w' => e = .returned (.int .i64 (kidsN k)) ∧ w' = W) := zH (fun W => p_kids k W)
  obtain ⟨kd, hkd⟩ : ∃ z, kidsN k = z := ⟨_, rfl⟩
  rw [hkd] at KD ⊢
  obtain ⟨nm, hnm⟩ : ∃ b, decide (k ∈ namedL) = b := ⟨_, rfl⟩
  have NM := zH hnm
  have HS := zH (And.intro hb hl)
  clear hkd hm hp hkn hb hl
  by_cases h1 : kd = (kn : Int)
  rotate_left
  · have a1 : (kd != (kn : Int)) = true := by simpa using h1
    rw [decide_eq_false h1]
    simp only [Bool.false_and]
    clear h1 hnm
    go_enter Tryz.func28, Tryz.ntmps28
    go_wp2_with fail
    go_quiet ((go_at_call 46; with_reducible exact quiet_callw (KD.out _)))
    go_wp2_with fail
    go_ret
    exact ⟨rfl, below_drewN BX.out _⟩
  subst h1
  have a1 : ((kn : Int) != (kn : Int)) = false := by simp
  rw [decide_eq_true rfl]
  by_cases h2 : n = 0
  · subst h2
    have hmin : decide ((0 : Int) = -9223372036854775808) = false := by decide
    rw [hmin]
    simp only [ne_eq, not_true_eq_false, decide_false, Bool.false_and, Bool.not_false, Bool.true_and]
    clear hmin a1
    cases nm with
    | true =>
      have hin := of_decide_eq_true hnm
      rw [if_pos hin]
      clear hin hnm
      go_enter Tryz.func28, Tryz.ntmps28
      go_wp2_with fail
      go_quiet ((go_at_call 46; with_reducible exact quiet_callw (KD.out _)))
      go_wp2_with (first
            | (go_at_call 47; refine (p_named _ _).mono ?_; rw [NM.out]; rintro e w3 ⟨rfl, rfl⟩)
            | (go_at_call 48; refine (PN.out _ (by exact BX.out.trans ((below_drewN zB _)))).mono ?_; rintro e w4 ⟨rfl, b4⟩; have B4 := zH b4; clear b4))
      go_ret
      exact ⟨rfl, (below_drewN BX.out _).trans (B4.out.mono (by have := BX.out.size; exact this))⟩
    | false =>
      have hin := of_decide_eq_false hnm
      rw [if_neg hin]
      clear hin hnm
      by_cases h5 : s = []
      · subst h5
        have a5 : ((txt []).toList == []) = true := by rw [nil_facts]; rfl
        simp only [decide_true, Bool.true_or]
        go_enter Tryz.func28, Tryz.ntmps28
        go_wp2_with fail
        go_quiet ((go_at_call 46; with_reducible exact quiet_callw (KD.out _)))
        go_wp2_with (first
              | (go_at_call 47; refine (p_named _ _).mono ?_; rw [NM.out]; rintro e w3 ⟨rfl, rfl⟩)
              | (go_at_call 48; refine (PN.out _ (by exact BX.out.trans ((below_drewN zB _)))).mono ?_; rintro e w4 ⟨rfl, b4⟩; have B4 := zH b4; clear b4))
        go_ret
        exact ⟨rfl, below_drewN BX.out _⟩
      · have a5 : ((txt s).toList == []) = false := by rw [beq_eq_false_iff_ne]; exact txt_empty HS.out.1 h5
        rw [decide_eq_false h5, Bool.false_or]
        clear h5
        by_cases h6 : k = 2
        · subst h6
          simp only [decide_true, Bool.true_and]
          obtain ⟨sl, hsl⟩ : ∃ z, s.length = z := ⟨_, rfl⟩
          have a7 : ((txt s).size : Int) = (sl : Int) := by rw [txt_size, hsl]
          rw [hsl]
          clear hsl
          by_cases h7 : sl ≤ 4096
          · have a8 : decide (sl ≤ 4096) = true := by simpa using h7
            have a9 : decide ((sl : Int) ≤ 4096) = true := by simp; omega
            rw [a8]
            clear h7
            go_enter Tryz.func28, Tryz.ntmps28
            go_wp2_with fail
            go_quiet ((go_at_call 46; with_reducible exact quiet_callw (KD.out _)))
            go_wp2_with (first
                  | (go_at_call 47; refine (p_named _ _).mono ?_; rw [NM.out]; rintro e w3 ⟨rfl, rfl⟩)
                  | (go_at_call 48; refine (PN.out _ (by exact BX.out.trans ((below_drewN zB _)))).mono ?_; rintro e w4 ⟨rfl, b4⟩; have B4 := zH b4; clear b4))
            go_ret
            exact ⟨rfl, below_drewN BX.out _⟩
          · have a8 : decide (sl ≤ 4096) = false := by simpa using h7
            have a9 : decide ((sl : Int) ≤ 4096) = false := by simp; omega
            rw [a8]
            clear h7
            go_enter Tryz.func28, Tryz.ntmps28
            go_wp2_with fail
            go_quiet ((go_at_call 46; with_reducible exact quiet_callw (KD.out _)))
            go_wp2_with (first
                  | (go_at_call 47; refine (p_named _ _).mono ?_; rw [NM.out]; rintro e w3 ⟨rfl, rfl⟩)
                  | (go_at_call 48; refine (PN.out _ (by exact BX.out.trans ((below_drewN zB _)))).mono ?_; rintro e w4 ⟨rfl, b4⟩; have B4 := zH b4; clear b4))
            go_ret
            exact ⟨rfl, below_drewN BX.out _⟩
        · have a6 : (k == 2) = false := by simpa using h6
          rw [decide_eq_false h6, Bool.false_and]
          clear h6
          go_enter Tryz.func28, Tryz.ntmps28
          go_wp2_with fail
          go_quiet ((go_at_call 46; with_reducible exact quiet_callw (KD.out _)))
          go_wp2_with (first
                | (go_at_call 47; refine (p_named _ _).mono ?_; rw [NM.out]; rintro e w3 ⟨rfl, rfl⟩)
                | (go_at_call 48; refine (PN.out _ (by exact BX.out.trans ((below_drewN zB _)))).mono ?_; rintro e w4 ⟨rfl, b4⟩; have B4 := zH b4; clear b4))
          go_ret
          exact ⟨rfl, below_drewN BX.out _⟩
  · have a2 : (n != 0) = true := by simpa using h2
    by_cases h3 : k = 1
    · subst h3
      by_cases h4 : n = -9223372036854775808
      · subst h4
        simp only [decide_true, Bool.not_true, Bool.and_false, Bool.false_and]
        clear hnm h2
        go_enter Tryz.func28, Tryz.ntmps28
        go_wp2_with fail
        go_quiet ((go_at_call 46; with_reducible exact quiet_callw (KD.out _)))
        go_wp2_with fail
        go_ret
        exact ⟨rfl, below_drewN BX.out _⟩
      · have a4 : (n == -9223372036854775808) = false := by simpa using h4
        rw [decide_eq_false h4]
        simp only [ne_eq, not_true_eq_false, decide_false, Bool.and_false, Bool.not_false, Bool.true_and]
        clear h2 h4
        cases nm with
        | true =>
          have hin := of_decide_eq_true hnm
          rw [if_pos hin]
          clear hin hnm
          go_enter Tryz.func28, Tryz.ntmps28
          go_wp2_with fail
          go_quiet ((go_at_call 46; with_reducible exact quiet_callw (KD.out _)))
          go_wp2_with (first
                | (go_at_call 47; refine (p_named _ _).mono ?_; rw [NM.out]; rintro e w3 ⟨rfl, rfl⟩)
                | (go_at_call 48; refine (PN.out _ (by exact BX.out.trans ((below_drewN zB _)))).mono ?_; rintro e w4 ⟨rfl, b4⟩; have B4 := zH b4; clear b4))
          go_ret
          exact ⟨rfl, (below_drewN BX.out _).trans (B4.out.mono (by have := BX.out.size; exact this))⟩
        | false =>
          have hin := of_decide_eq_false hnm
          rw [if_neg hin]
          clear hin hnm
          by_cases h5 : s = []
          · subst h5
            have a5 : ((txt []).toList == []) = true := by rw [nil_facts]; rfl
            simp only [decide_true, Bool.true_or]
            go_enter Tryz.func28, Tryz.ntmps28
            go_wp2_with fail
            go_quiet ((go_at_call 46; with_reducible exact quiet_callw (KD.out _)))
            go_wp2_with (first
                  | (go_at_call 47; refine (p_named _ _).mono ?_; rw [NM.out]; rintro e w3 ⟨rfl, rfl⟩)
                  | (go_at_call 48; refine (PN.out _ (by exact BX.out.trans ((below_drewN zB _)))).mono ?_; rintro e w4 ⟨rfl, b4⟩; have B4 := zH b4; clear b4))
            go_ret
            exact ⟨rfl, below_drewN BX.out _⟩
          · have a5 : ((txt s).toList == []) = false := by rw [beq_eq_false_iff_ne]; exact txt_empty HS.out.1 h5
            rw [decide_eq_false h5, Bool.false_or]
            clear h5
            have a6 : decide ((1 : Int) = 2) = false := by decide
            rw [a6, Bool.false_and]
            clear a6
            go_enter Tryz.func28, Tryz.ntmps28
            go_wp2_with fail
            go_quiet ((go_at_call 46; with_reducible exact quiet_callw (KD.out _)))
            go_wp2_with (first
                  | (go_at_call 47; refine (p_named _ _).mono ?_; rw [NM.out]; rintro e w3 ⟨rfl, rfl⟩)
                  | (go_at_call 48; refine (PN.out _ (by exact BX.out.trans ((below_drewN zB _)))).mono ?_; rintro e w4 ⟨rfl, b4⟩; have B4 := zH b4; clear b4))
            go_ret
            exact ⟨rfl, below_drewN BX.out _⟩
    · have a3 : (k != 1) = true := by simpa using h3
      simp only [ne_eq, h2, h3, not_false_eq_true, decide_true, Bool.and_self, Bool.not_true, Bool.and_false, Bool.false_and]
      clear hnm h2 h3
      go_enter Tryz.func28, Tryz.ntmps28
      go_wp2_with fail
      go_quiet ((go_at_call 46; with_reducible exact quiet_callw (KD.out _)))
      go_wp2_with fail
      go_ret
      exact ⟨rfl, below_drewN BX.out _⟩
end Go.Proofs.YtdkoafmgenbkbaaGreatDoor
namespace Go.Proofs.YtdkoafmgenbkbaaGreatDoor
open Go.RowKit
theorem may_text {d : ND} (h : mayE d = true) : d.text.length ≤ 4096 := by
  obtain ⟨k, s, nm, ks⟩ := d
  rw [mayE_def, Bool.and_eq_true] at h
  have h2 := h.2
  by_cases hin : k ∈ namedL
  · rw [if_pos hin] at h2
    unfold plain8N at h2
    rw [Bool.and_eq_true] at h2
    have := right_len h2.1
    simp only
    omega
  · rw [if_neg hin, Bool.or_eq_true, Bool.and_eq_true] at h2
    simp only
    rcases h2 with h2 | h2
    · rw [of_decide_eq_true h2]; simp
    · exact of_decide_eq_true h2.2
theorem right_met {l : List ND} (h : rightE l = 0) : l.length ≤ 256 ∧ ∃ r, metN l l.length 0 = some r ∧ r.2 = l.length ∧ r.1 ≤ 32 := by
  unfold rightE at h
  split at h
  · cases h
  · rename_i hl
    refine ⟨by omega, ?_⟩
    cases hr : metN l l.length 0 with
    | none => rw [hr] at h; cases h
    | some r =>
      rw [hr] at h
      simp only at h
      split at h
      · cases h
      · rename_i h2
        split at h
        · cases h
        · exact ⟨r, rfl, by omega, by omega⟩
end Go.Proofs.YtdkoafmgenbkbaaGreatDoor
namespace Go.Proofs.YtdkoafmgenbkbaaGreatDoor
inductive Shape : Nat → List Nat → Int → List Tr → Prop
  | int {n : Int} : n ≠ -9223372036854775808 → Shape 1 [] n []
  | text {s : List Nat} : s.length ≤ 4096 → Shape 2 s 0 []
  | name {s : List Nat} : plain8N s = true → Shape 7 s 0 []
  | zero {y : List Nat × Nat × Nat} : y ∈ onesL → y.2.2 = 0 → Shape y.2.1 [] 0 []
  | post {x : List Nat × Nat × Nat} {s : List Nat} {a : Tr} : x ∈ signsL → x.2.2 = 7 → x.2.1 ≠ 11 → plain8N s = true → Shape x.2.1 s 0 [a]
  | parent {a : Tr} : Shape 11 [] 0 [a]
  | not_ {a : Tr} : Shape 29 [] 0 [a]
  | one {y : List Nat × Nat × Nat} {a : Tr} : y ∈ onesL → y.2.2 = 1 → Shape y.2.1 [] 0 [a]
  | bin {x : List Nat × Nat × Nat} {a b : Tr} : x ∈ signsL → x.2.2 < 7 → Shape x.2.1 [] 0 [a, b]
  | iff {a b c : Tr} : Shape 30 [] 0 [a, b, c]
  | loop {y : List Nat × Nat × Nat} {s : List Nat} {a b : Tr} : y ∈ onesL → y.2.2 = 2 → plain8N s = true → Shape y.2.1 s 0 [a, b]
def Node (k : Nat) (s : List Nat) (n : Int) (ks : List Tr) : Prop := Shape k s n ks ∧ Bytes s ∧ -9223372036854775808 ≤ n ∧ n ≤ 9223372036854775807
mutual
def Tr.Good : Tr → Prop
  | .node k s n ks => Node k s n ks ∧ GoodL ks
def GoodL : List Tr → Prop
  | [] => True
  | t :: ts => t.Good ∧ GoodL ts
end
theorem list1 {β : Type} {ts : List β} (e : ts.length = 1) : ∃ a, ts = [a] := by
  match ts, e with
  | [a], _ => exact ⟨a, rfl⟩
theorem list2 {β : Type} {ts : List β} (e : ts.length = 2) : ∃ a b, ts = [a, b] := by
  match ts, e with
  | [a, b], _ => exact ⟨a, b, rfl⟩
theorem list3 {β : Type} {ts : List β} (e : ts.length = 3) : ∃ a b c, ts = [a, b, c] := by
  match ts, e with
  | [a, b, c], _ => exact ⟨a, b, c, rfl⟩
theorem shape_of {k : Nat} {s : List Nat} {n : Int} {ks : List Int} {ts : List Tr} (hl : ts.length = ks.length) (h : mayE ⟨(k : Int), s, n, ks⟩ = true) : Shape k s n ts := by
  rw [mayE_def, Bool.and_eq_true, Bool.and_eq_true, Bool.and_eq_true, ← hl] at h
  obtain ⟨⟨⟨h1, h2⟩, h3⟩, h4⟩ := h
  have h1 := of_decide_eq_true h1
  have hn : n ≠ -9223372036854775808 := by simpa using h3
  have hk : 1 ≤ k ∧ k ≤ 34 := by
    unfold kidsN at h1
    repeat' split at h1
    all_goals omega
  have hz : k ≠ 1 → n = 0 := by
    intro hk1
    rcases Classical.em (n = 0) with e | e
    · exact e
    · have e1 : ((k : Int) ≠ 1) := by omega
      rw [decide_eq_true e, decide_eq_true e1] at h2
      cases h2
  have nm : ∀ {m : Nat}, (m : Int) ∈ namedL → k = m → plain8N s = true := by
    intro m hm e
    subst e
    rw [if_pos hm] at h4
    exact h4
  have un : ∀ {m : Nat}, ¬ ((m : Int) ∈ namedL) → m ≠ 2 → k = m → s = [] := by
    intro m hm h2 e
    subst e
    rw [if_neg hm, decide_eq_false (p := ((k : Int) = 2)) (by omega)] at h4
    simpa using h4
  have hks : ∀ {m : Nat} {c : Nat}, kidsN (m : Int) = (c : Int) → k = m → ts.length = c := by
    intro m c hc e
    subst e
    rw [hc] at h1
    omega
  have hcases : k = 1 ∨ k = 2 ∨ k = 3 ∨ k = 4 ∨ k = 5 ∨ k = 6 ∨ k = 7 ∨ k = 8 ∨ k = 9 ∨ k = 10 ∨ k = 11 ∨ k = 12 ∨ k = 13 ∨ k = 14 ∨ k = 15 ∨ k = 16 ∨ k = 17 ∨ k = 18 ∨ k = 19 ∨ k = 20 ∨ k = 21 ∨ k = 22 ∨ k = 23 ∨ k = 24 ∨ k = 25 ∨ k = 26 ∨ k = 27 ∨ k = 28 ∨ k = 29 ∨ k = 30 ∨ k = 31 ∨ k = 32 ∨ k = 33 ∨ k = 34 := by omega
  have zeroC : ∀ y ∈ onesL, y.2.2 = 0 → ¬ ((y.2.1 : Nat) : Int) ∈ namedL ∧ y.2.1 ≠ 2 ∧ y.2.1 ≠ 1 ∧ kidsN ((y.2.1 : Nat) : Int) = ((0 : Nat) : Int) := by decide
  have oneC : ∀ y ∈ onesL, y.2.2 = 1 → ¬ ((y.2.1 : Nat) : Int) ∈ namedL ∧ y.2.1 ≠ 2 ∧ y.2.1 ≠ 1 ∧ kidsN ((y.2.1 : Nat) : Int) = ((1 : Nat) : Int) := by decide
  have loopC : ∀ y ∈ onesL, y.2.2 = 2 → ((y.2.1 : Nat) : Int) ∈ namedL ∧ y.2.1 ≠ 1 ∧ kidsN ((y.2.1 : Nat) : Int) = ((2 : Nat) : Int) := by decide
  have binC : ∀ x ∈ signsL, x.2.2 < 7 → ¬ ((x.2.1 : Nat) : Int) ∈ namedL ∧ x.2.1 ≠ 2 ∧ x.2.1 ≠ 1 ∧ kidsN ((x.2.1 : Nat) : Int) = ((2 : Nat) : Int) := by decide
  have postC : ∀ x ∈ signsL, x.2.2 = 7 → x.2.1 ≠ 11 → ((x.2.1 : Nat) : Int) ∈ namedL ∧ x.2.1 ≠ 1 ∧ kidsN ((x.2.1 : Nat) : Int) = ((1 : Nat) : Int) := by decide
  have zero : ∀ y ∈ onesL, y.2.2 = 0 → k = y.2.1 → Shape k s n ts := by
    intro y hy h0 e
    obtain ⟨c1, c2, c3, c4⟩ := zeroC y hy h0
    rw [un c1 c2 e, hz (by omega), List.eq_nil_of_length_eq_zero (hks c4 e), e]
    exact .zero hy h0
  have one : ∀ y ∈ onesL, y.2.2 = 1 → k = y.2.1 → Shape k s n ts := by
    intro y hy h0 e
    obtain ⟨c1, c2, c3, c4⟩ := oneC y hy h0
    obtain ⟨a, ha⟩ := list1 (hks c4 e)
    rw [un c1 c2 e, hz (by omega), ha, e]
    exact .one hy h0
  have loop : ∀ y ∈ onesL, y.2.2 = 2 → k = y.2.1 → Shape k s n ts := by
    intro y hy h0 e
    obtain ⟨c1, c2, c3⟩ := loopC y hy h0
    obtain ⟨a, b, ha⟩ := list2 (hks c3 e)
    have hp := nm c1 e
    rw [hz (by omega), ha, e]
    exact .loop hy h0 hp
  have bin : ∀ x ∈ signsL, x.2.2 < 7 → k = x.2.1 → Shape k s n ts := by
    intro x hx h0 e
    obtain ⟨c1, c2, c3, c4⟩ := binC x hx h0
    obtain ⟨a, b, ha⟩ := list2 (hks c4 e)
    rw [un c1 c2 e, hz (by omega), ha, e]
    exact .bin hx h0
  have post : ∀ x ∈ signsL, x.2.2 = 7 → x.2.1 ≠ 11 → k = x.2.1 → Shape k s n ts := by
    intro x hx h0 h11 e
    obtain ⟨c1, c2, c3⟩ := postC x hx h0 h11
    obtain ⟨a, ha⟩ := list1 (hks c3 e)
    have hp := nm c1 e
    rw [hz (by omega), ha, e]
    exact .post hx h0 h11 hp
  have fz : ∀ m ∈ [3, 4, 5, 6], ∃ y ∈ onesL, y.2.2 = 0 ∧ m = y.2.1 := by decide
  have fo : ∀ m ∈ [14, 15, 16, 17, 18, 19], ∃ y ∈ onesL, y.2.2 = 1 ∧ m = y.2.1 := by decide
  have fl : ∀ m ∈ [31, 32, 33, 34], ∃ y ∈ onesL, y.2.2 = 2 ∧ m = y.2.1 := by decide
  have fb : ∀ m ∈ [20, 21, 22, 23, 24, 25, 26, 27, 28], ∃ x ∈ signsL, x.2.2 < 7 ∧ m = x.2.1 := by decide
  have fp : ∀ m ∈ [8, 9, 10, 12, 13], ∃ x ∈ signsL, x.2.2 = 7 ∧ x.2.1 ≠ 11 ∧ m = x.2.1 := by decide
  have hsplit : k = 1 ∨ k = 2 ∨ k = 7 ∨ k = 11 ∨ k = 29 ∨ k = 30 ∨ k ∈ [3, 4, 5, 6] ∨ k ∈ [14, 15, 16, 17, 18, 19] ∨ k ∈ [31, 32, 33, 34] ∨ k ∈ [20, 21, 22, 23, 24, 25, 26, 27, 28] ∨ k ∈ [8, 9, 10, 12, 13] := by
    simp only [List.mem_cons, List.not_mem_nil, or_false]
    omega
  rcases hsplit with e | e | e | e | e | e | e | e | e | e | e
  · have hs : s = [] := un (m := 1) (by decide) (by decide) e
    have ht : ts.length = 0 := hks (m := 1) (c := 0) (by decide) e
    rw [hs, List.eq_nil_of_length_eq_zero ht, e]
    exact .int hn
  · have ht : ts.length = 0 := hks (m := 2) (c := 0) (by decide) e
    rw [hz (by omega), List.eq_nil_of_length_eq_zero ht]
    subst e
    refine .text ?_
    rw [if_neg (by decide)] at h4
    rw [Bool.or_eq_true, Bool.and_eq_true] at h4
    rcases h4 with h4 | h4
    · rw [of_decide_eq_true h4]; simp
    · exact of_decide_eq_true h4.2
  · have ht : ts.length = 0 := hks (m := 7) (c := 0) (by decide) e
    have hp : plain8N s = true := nm (m := 7) (by decide) e
    rw [hz (by omega), List.eq_nil_of_length_eq_zero ht, e]
    exact .name hp
  · have hs : s = [] := un (m := 11) (by decide) (by decide) e
    obtain ⟨a, ht⟩ := list1 (hks (m := 11) (c := 1) (by decide) e)
    rw [hs, hz (by omega), ht, e]
    exact .parent
  · have hs : s = [] := un (m := 29) (by decide) (by decide) e
    obtain ⟨a, ht⟩ := list1 (hks (m := 29) (c := 1) (by decide) e)
    rw [hs, hz (by omega), ht, e]
    exact .not_
  · have hs : s = [] := un (m := 30) (by decide) (by decide) e
    obtain ⟨a, b, c, ht⟩ := list3 (hks (m := 30) (c := 3) (by decide) e)
    rw [hs, hz (by omega), ht, e]
    exact .iff
  · obtain ⟨y, h1, h2, h3⟩ := fz k e
    exact zero y h1 h2 h3
  · obtain ⟨y, h1, h2, h3⟩ := fo k e
    exact one y h1 h2 h3
  · obtain ⟨y, h1, h2, h3⟩ := fl k e
    exact loop y h1 h2 h3
  · obtain ⟨y, h1, h2, h3⟩ := fb k e
    exact bin y h1 h2 h3
  · obtain ⟨y, h1, h2, h4, h3⟩ := fp k e
    exact post y h1 h2 h4 h3
theorem may_of {k : Nat} {s : List Nat} {n : Int} {ks : List Int} {ts : List Tr} (hl : ts.length = ks.length) (h : Shape k s n ts) : mayE ⟨(k : Int), s, n, ks⟩ = true := by
  rw [mayE_def, ← hl]
  have zeroC : ∀ y ∈ onesL, y.2.2 = 0 → ¬ ((y.2.1 : Nat) : Int) ∈ namedL ∧ kidsN ((y.2.1 : Nat) : Int) = ((0 : Nat) : Int) := by decide
  have oneC : ∀ y ∈ onesL, y.2.2 = 1 → ¬ ((y.2.1 : Nat) : Int) ∈ namedL ∧ kidsN ((y.2.1 : Nat) : Int) = ((1 : Nat) : Int) := by decide
  have loopC : ∀ y ∈ onesL, y.2.2 = 2 → ((y.2.1 : Nat) : Int) ∈ namedL ∧ kidsN ((y.2.1 : Nat) : Int) = ((2 : Nat) : Int) := by decide
  have binC : ∀ x ∈ signsL, x.2.2 < 7 → ¬ ((x.2.1 : Nat) : Int) ∈ namedL ∧ kidsN ((x.2.1 : Nat) : Int) = ((2 : Nat) : Int) := by decide
  have postC : ∀ x ∈ signsL, x.2.2 = 7 → x.2.1 ≠ 11 → ((x.2.1 : Nat) : Int) ∈ namedL ∧ kidsN ((x.2.1 : Nat) : Int) = ((1 : Nat) : Int) := by decide
  cases h with
  | int h => simp [h]; decide
  | text h =>
    rw [if_neg (by decide), decide_eq_true h]
    simp
    decide
  | name h => rw [if_pos (by decide), h]; decide
  | zero hy h0 =>
    obtain ⟨c1, c2⟩ := zeroC _ hy h0
    rw [if_neg c1, c2]
    simp
  | post hx h0 h11 hp =>
    obtain ⟨c1, c2⟩ := postC _ hx h0 h11
    rw [if_pos c1, c2, hp]
    simp
  | parent => rfl
  | not_ => rfl
  | one hy h0 =>
    obtain ⟨c1, c2⟩ := oneC _ hy h0
    rw [if_neg c1, c2]
    simp
  | bin hx h0 =>
    obtain ⟨c1, c2⟩ := binC _ hx h0
    rw [if_neg c1, c2]
    simp
  | iff => rfl
  | loop hy h0 hp =>
    obtain ⟨c1, c2⟩ := loopC _ hy h0
    rw [if_pos c1, c2, hp]
    simp
def bodyG (k : Int) (s : List Nat) (n : Int) (c : Nat) (g : Nat → Nat → List Nat) : List Nat :=
  if k = 1 then showN n
  else if k = 2 then quoteN s
  else if k = 7 then s
  else if levelN k = 7 then g 0 7 ++ (markT k ++ s)
  else if k = 29 then [110, 111, 116, 32] ++ g 0 3
  else if levelN k < 7 then g 0 (if levelN k = 4 then 5 else levelN k) ++ (([32] ++ markT k) ++ [32]) ++ g 1 (levelN k + 1)
  else if k = 30 then [105, 102, 32] ++ g 0 0 ++ [32, 116, 104, 101, 110, 32] ++ g 1 0 ++ [32, 101, 108, 115, 101, 32] ++ g 2 0 ++ [32, 101, 110, 100]
  else if 31 ≤ k then (((wordT k ++ [32]) ++ s) ++ [32, 105, 110, 32]) ++ g 0 0 ++ [58, 32] ++ g 1 0 ++ [32, 101, 110, 100]
  else if c = 1 then (wordT k ++ [40]) ++ g 0 0 ++ [41]
  else wordT k
def kidG (gs : List (Nat → List Nat)) (i t : Nat) : List Nat := match gs[i]? with
  | some g => g t
  | none => []
mutual
def tellT : Tr → Nat → List Nat
  | .node k s n ks => fun t => if levelN (k : Int) < t then [40] ++ bodyG k s n ks.length (kidG (tellTL ks)) ++ [41] else bodyG k s n ks.length (kidG (tellTL ks))
def tellTL : List Tr → List (Nat → List Nat)
  | [] => []
  | t :: ts => tellT t :: tellTL ts
end
theorem body_g (g : Nat → Nat → List Nat) (d : ND) : bodyT g d = bodyG d.kind d.text d.num d.kids.length (kidT g d) := rfl
theorem places_len : ∀ (ts : List Tr) (p : Nat), (placesL ts p).length = ts.length
  | [], _ => rfl
  | t :: ts, p => by simp only [placesL, List.length_cons, places_len ts]
def ndsT (t : Tr) (p : Nat) : List ND := (t.flat p).map EN.nd
def ndsL (ts : List Tr) (p : Nat) : List ND := (flatL ts p).map EN.nd
theorem nds_len (t : Tr) (p : Nat) : (ndsT t p).length = t.size := by unfold ndsT; rw [List.length_map, trFlat_len]
def Stands (l : List ND) (t : Tr) (p : Nat) : Prop := (l.drop p).take t.size = ndsT t p
def StandsL (l : List ND) (ts : List Tr) (p : Nat) : Prop := (l.drop p).take (sizeL ts) = ndsL ts p
theorem StandsL.nil (l : List ND) (p : Nat) : StandsL l [] p := by simp [StandsL, sizeL, ndsL, flatL]
theorem StandsL.cons {l : List ND} {t : Tr} {ts : List Tr} {p : Nat} (h1 : Stands l t p) (h2 : StandsL l ts (p + t.size)) : StandsL l (t :: ts) p := by
  unfold StandsL Stands ndsL ndsT at *
  simp only [sizeL, flatL, List.map_append]
  rw [List.take_add, h1, List.drop_drop, h2]
theorem metL_tree {l : List ND} {g : Nat → Option (Nat × Nat)} {T : Nat → Nat → List Nat} (hg : ∀ n r, g n = some r → ∃ t : Tr, t.Good ∧ r = (t.deep, n + t.size) ∧ Stands l t n ∧ ∀ m, T n m = tellT t m) :
    ∀ (ks : List Int) (n dp : Nat) (r : Nat × Nat), metL g ks n dp = some r → ∃ ts : List Tr, GoodL ts ∧ r = (max dp (deepL ts), n + sizeL ts) ∧ ks = (placesL ts n).map (fun n : Nat => (n : Int)) ∧ StandsL l ts n ∧ ∀ (d : ND), d.kids = ks → ∀ i m, kidT T d i m = kidG (tellTL ts) i m
  | [], n, dp, r, h => by
    simp only [metL] at h
    injection h with h
    refine ⟨[], trivial, by rw [← h]; simp [deepL, sizeL], rfl, StandsL.nil _ _, fun d hd i m => ?_⟩
    unfold kidT kidG
    rw [hd]
    simp [tellTL]
  | k :: ks, n, dp, r, h => by
    simp only [metL] at h
    split at h
    · rename_i e
      split at h
      · cases h
      · rename_i x hx
        obtain ⟨t, h1, h2, h3, h4⟩ := hg n x hx
        subst h2
        obtain ⟨ts, g1, g2, g3, g4, g5⟩ := metL_tree hg ks _ _ r h
        refine ⟨t :: ts, ⟨h1, g1⟩, ?_, ?_, StandsL.cons h3 g4, fun d hd i m => ?_⟩
        · rw [g2]
          simp only [deepL, sizeL, Prod.mk.injEq]
          constructor <;> omega
        · rw [e, g3]; rfl
        · unfold kidT kidG
          rw [hd]
          cases i with
          | zero =>
            simp only [tellTL, List.getElem?_cons_zero]
            rw [e, Int.toNat_natCast]
            exact h4 m
          | succ i =>
            have := g5 ⟨0, [], 0, ks⟩ rfl i m
            unfold kidT kidG at this
            simp only [tellTL, List.getElem?_cons_succ]
            exact this
    · cases h
theorem kind_nat {d : ND} (h : mayE d = true) : ∃ k : Nat, d.kind = (k : Int) := by
  obtain ⟨k, s, n, ks⟩ := d
  rw [mayE_def, Bool.and_eq_true, Bool.and_eq_true, Bool.and_eq_true] at h
  have h1 := of_decide_eq_true h.1.1.1
  refine ⟨k.toNat, ?_⟩
  simp only
  unfold kidsN at h1
  repeat' split at h1
  all_goals omega
theorem metN_tree (l : List ND) (hok : ∀ d ∈ l, NdOk d) : ∀ (f p : Nat) (r : Nat × Nat), metN l f p = some r → ∃ t : Tr, t.Good ∧ r = (t.deep, p + t.size) ∧ Stands l t p ∧ ∀ m, tellN l f p m = tellT t m
  | 0, p, r, h => by simp only [metN] at h; cases h
  | f + 1, p, r, h => by
    simp only [metN] at h
    cases hd : l[p]? with
    | none => rw [hd] at h; cases h
    | some d =>
      rw [hd] at h
      simp only at h
      by_cases hm : mayE d = true
      · rw [if_pos hm] at h
        obtain ⟨x, hx, rfl⟩ := Option.map_eq_some_iff.1 h
        obtain ⟨ts, g1, g2, g3, g4, g5⟩ := metL_tree (l := l) (T := tellN l f) (fun n r hr => metN_tree l hok f n r hr) d.kids (p + 1) 0 x hx
        obtain ⟨k, hk⟩ := kind_nat hm
        have hmem : d ∈ l := List.mem_iff_getElem?.2 ⟨p, hd⟩
        obtain ⟨b1, b2, b3, b4⟩ := hok d hmem
        have g5' := g5 d rfl
        obtain ⟨dk, ds, dn, dks⟩ := d
        simp only at hk g3 b1 b3 b4
        subst hk
        have hlen : ts.length = dks.length := by rw [g3, List.length_map, places_len]
        refine ⟨.node k ds dn ts, ⟨⟨shape_of hlen hm, b1, b3, b4⟩, g1⟩, ?_, ?_, fun m => ?_⟩
        · rw [g2]
          simp only [Tr.deep, Tr.size, Nat.zero_max, Prod.mk.injEq, true_and]
          omega
        · unfold Stands ndsT
          simp only [Tr.size, Tr.flat, List.map_cons]
          have hp := (List.getElem?_eq_some_iff.1 hd).1
          have hpe := (List.getElem?_eq_some_iff.1 hd).2
          rw [List.drop_eq_getElem_cons hp, Nat.add_comm 1, List.take_succ_cons, hpe]
          unfold StandsL ndsL at g4
          rw [g4]
          congr 1
          rw [g3]
          rfl
        · rw [tellN, hd]
          simp only
          rw [body_g]
          simp only
          rw [← hlen, show kidT (tellN l f) ⟨k, ds, dn, dks⟩ = kidG (tellTL ts) from funext fun i => funext fun m => g5' i m]
          simp only [tellT]
      · rw [if_neg hm] at h; cases h
theorem right_tree {l : List ND} (hok : ∀ d ∈ l, NdOk d) (h : rightE l = 0) : ∃ t : Tr, t.Good ∧ t.deep ≤ 32 ∧ t.size ≤ 256 ∧ l = ndsT t 0 ∧ ∀ m, tellN l l.length 0 m = tellT t m := by
  obtain ⟨h1, r, h2, h3, h4⟩ := right_met h
  obtain ⟨t, g1, g2, g3, g4⟩ := metN_tree l hok _ _ _ h2
  subst g2
  simp only at h3 h4
  rw [Nat.zero_add] at h3
  refine ⟨t, g1, h4, by omega, ?_, g4⟩
  unfold Stands at g3
  rw [List.drop_zero, List.take_of_length_le (by omega)] at g3
  exact g3
mutual
theorem met_of {l : List ND} : ∀ (t : Tr) (f p : Nat), t.size ≤ f → t.Good → Stands l t p → metN l f p = some (t.deep, p + t.size) ∧ ∀ m, tellN l f p m = tellT t m
  | .node k s n ks, 0, p, hf, _, _ => by simp only [Tr.size] at hf; omega
  | .node k s n ks, f + 1, p, hf, hg, hs => by
    simp only [Tr.size] at hf
    obtain ⟨⟨hsh, hb⟩, hgl⟩ := hg
    have hs' := hs
    unfold Stands ndsT at hs
    simp only [Tr.size, Tr.flat, List.map_cons] at hs
    have h0 : l[p]? = some (EN.nd ⟨k, s, n, placesL ks (p + 1)⟩) := by
      have := congrArg List.head? hs
      rw [Nat.add_comm, List.head?_take, if_neg (by omega), List.head?_drop] at this
      exact this
    have htl : StandsL l ks (p + 1) := by
      have := congrArg (List.drop 1) hs
      rw [List.drop_take, List.drop_drop, Nat.add_sub_cancel_left] at this
      exact this
    have hlen : ks.length = ((placesL ks (p + 1)).map (fun n : Nat => (n : Int))).length := by rw [List.length_map, places_len]
    have hmay := may_of hlen hsh
    obtain ⟨k1, k2⟩ := metL_of ks f (p + 1) 0 (by omega) hgl htl
    refine ⟨?_, fun m => ?_⟩
    · rw [metN, h0]
      simp only
      rw [if_pos (show mayE (EN.nd ⟨k, s, n, placesL ks (p + 1)⟩) = true from hmay)]
      show Option.map _ (metL (metN l f) ((placesL ks (p + 1)).map (fun n : Nat => (n : Int))) (p + 1) 0) = _
      rw [k1]
      simp only [Option.map_some, Tr.deep, Tr.size, Nat.zero_max, Option.some.injEq, Prod.mk.injEq, true_and]
      omega
    · rw [tellN, h0]
      simp only
      rw [body_g]
      have e : kidT (tellN l f) (EN.nd ⟨k, s, n, placesL ks (p + 1)⟩) = kidG (tellTL ks) := funext fun i => funext fun m => k2 (EN.nd ⟨k, s, n, placesL ks (p + 1)⟩) rfl i m
      rw [e]
      show (if levelN (k : Int) < m then [40] ++ bodyG k s n ((placesL ks (p + 1)).map (fun n : Nat => (n : Int))).length (kidG (tellTL ks)) ++ [41] else bodyG k s n ((placesL ks (p + 1)).map (fun n : Nat => (n : Int))).length (kidG (tellTL ks))) = _
      rw [← hlen]
      simp only [tellT]
theorem metL_of {l : List ND} : ∀ (ts : List Tr) (f p dp : Nat), sizeL ts ≤ f → GoodL ts → StandsL l ts p → metL (metN l f) ((placesL ts p).map (fun n : Nat => (n : Int))) p dp = some (max dp (deepL ts), p + sizeL ts) ∧ ∀ (d : ND), d.kids = (placesL ts p).map (fun n : Nat => (n : Int)) → ∀ i m, kidT (tellN l f) d i m = kidG (tellTL ts) i m
  | [], f, p, dp, _, _, _ => by
    refine ⟨by simp [placesL, metL, deepL, sizeL], fun d hd i m => ?_⟩
    unfold kidT kidG
    rw [hd]
    simp [placesL, tellTL]
  | t :: ts, f, p, dp, hf, hg, hs => by
    simp only [sizeL] at hf
    have hs0 := hs
    unfold StandsL ndsL at hs
    simp only [sizeL, flatL, List.map_append] at hs
    rw [List.take_add] at hs
    have hln : ((l.drop p).take t.size).length = ((t.flat p).map EN.nd).length := by
      have := congrArg List.length hs
      simp only [List.length_append, List.length_take, List.length_drop, List.length_map, trFlat_len, trFlatL_len] at this ⊢
      omega
    obtain ⟨e1, e2⟩ := List.append_inj hs hln
    rw [List.drop_drop] at e2
    obtain ⟨k1, k2⟩ := met_of t f p (by omega) hg.1 e1
    obtain ⟨k3, k4⟩ := metL_of ts f (p + t.size) (max dp t.deep) (by omega) hg.2 e2
    refine ⟨?_, fun d hd i m => ?_⟩
    · simp only [placesL, List.map_cons, metL]
      rw [if_pos trivial, k1]
      simp only
      rw [k3]
      simp only [deepL, sizeL, Option.some.injEq, Prod.mk.injEq]
      constructor <;> omega
    · unfold kidT kidG
      rw [hd]
      simp only [placesL, List.map_cons, tellTL]
      cases i with
      | zero =>
        simp only [List.getElem?_cons_zero, Int.toNat_natCast]
        exact k2 m
      | succ i =>
        have := k4 ⟨0, [], 0, (placesL ts (p + t.size)).map (fun n : Nat => (n : Int))⟩ rfl i m
        unfold kidT kidG at this
        simp only [List.getElem?_cons_succ]
        exact this
end
theorem right_of {t : Tr} (hg : t.Good) (hs : t.size ≤ 256) (hd : t.deep ≤ 32) : rightE (ndsT t 0) = 0 ∧ ∀ m, tellN (ndsT t 0) (ndsT t 0).length 0 m = tellT t m := by
  have hst : Stands (ndsT t 0) t 0 := by
    unfold Stands
    rw [List.drop_zero, List.take_of_length_le (by rw [nds_len]; exact Nat.le_refl _)]
  obtain ⟨h1, h2⟩ := met_of (l := ndsT t 0) t (ndsT t 0).length 0 (by rw [nds_len]; exact Nat.le_refl _) hg hst
  refine ⟨?_, h2⟩
  unfold rightE
  rw [h1, nds_len, if_neg (by omega)]
  simp only
  rw [if_neg (by omega), if_neg (by omega)]
end Go.Proofs.YtdkoafmgenbkbaaGreatDoor
namespace Go.Proofs.YtdkoafmgenbkbaaGreatDoor
theorem end_at (a b : List Ins) (y : Ins) : endI (a ++ y :: b) a.length = a ++ ({ y with arg := ((a.length + 1 + b.length : Nat) : Int) } :: b) := by
  unfold endI
  have hl : (a ++ y :: b).length = a.length + 1 + b.length := by simp; omega
  rw [hl]
  apply List.ext_getElem?
  intro i
  rw [List.getElem?_modify]
  rcases Nat.lt_trichotomy i a.length with h | h | h
  · have hne : ¬ a.length = i := by omega
    rw [List.getElem?_append_left h, List.getElem?_append_left h]
    simp [hne]
  · subst h
    rw [List.getElem?_append_right zL, List.getElem?_append_right zL]
    simp
  · have hne : ¬ a.length = i := by omega
    rw [List.getElem?_append_right (by omega), List.getElem?_append_right (by omega)]
    obtain ⟨d, hd⟩ : ∃ d, i - a.length = d + 1 := ⟨i - a.length - 1, by omega⟩
    rw [hd]
    simp [hne]
theorem shape_cases {k : Nat} {s : List Nat} {n : Int} {ks : List Tr} (h : Shape k s n ks) :
    (ks = [] ∧ 1 ≤ k ∧ k ≤ 7) ∨ (∃ a, ks = [a] ∧ ((8 ≤ k ∧ k ≤ 19) ∨ k = 29)) ∨ (∃ a b, ks = [a, b] ∧ ((20 ≤ k ∧ k ≤ 28) ∨ (31 ≤ k ∧ k ≤ 34))) ∨ (∃ a b c, ks = [a, b, c] ∧ k = 30) := by
  have o0 : ∀ y ∈ onesL, y.2.2 = 0 → 3 ≤ y.2.1 ∧ y.2.1 ≤ 6 := by decide
  have o1 : ∀ y ∈ onesL, y.2.2 = 1 → 14 ≤ y.2.1 ∧ y.2.1 ≤ 19 := by decide
  have o2 : ∀ y ∈ onesL, y.2.2 = 2 → 31 ≤ y.2.1 ∧ y.2.1 ≤ 34 := by decide
  have s1 : ∀ y ∈ signsL, y.2.2 = 7 → 8 ≤ y.2.1 ∧ y.2.1 ≤ 13 := by decide
  have s2 : ∀ y ∈ signsL, y.2.2 < 7 → 20 ≤ y.2.1 ∧ y.2.1 ≤ 28 := by decide
  cases h with
  | int _ => exact .inl ⟨rfl, by omega, by omega⟩
  | text _ => exact .inl ⟨rfl, by omega, by omega⟩
  | name _ => exact .inl ⟨rfl, by omega, by omega⟩
  | zero h1 h2 => have := o0 _ h1 h2; exact .inl ⟨rfl, by omega, by omega⟩
  | post h1 h2 _ _ => have := s1 _ h1 h2; exact .inr (.inl ⟨_, rfl, by omega⟩)
  | parent => exact .inr (.inl ⟨_, rfl, by omega⟩)
  | not_ => exact .inr (.inl ⟨_, rfl, by omega⟩)
  | one h1 h2 => have := o1 _ h1 h2; exact .inr (.inl ⟨_, rfl, by omega⟩)
  | bin h1 h2 => have := s2 _ h1 h2; exact .inr (.inr (.inl ⟨_, _, rfl, by omega⟩))
  | iff => exact .inr (.inr (.inr ⟨_, _, _, rfl, rfl⟩))
  | loop h1 h2 _ => have := o2 _ h1 h2; exact .inr (.inr (.inl ⟨_, _, rfl, by omega⟩))
theorem leaf_op {k : Nat} {s : List Nat} {n : Int} {vs : List (List Nat)} (h1 : 1 ≤ k) (h2 : k ≤ 7) : (leafI k s n vs).op ≠ 1 ∧ hasN (leafI k s n vs).op ≠ 5 := by
  unfold leafI
  by_cases e1 : k = 1
  · rw [if_pos e1]; exact ⟨by show (2 : Int) ≠ 1; decide, by show hasN 2 ≠ 5; decide⟩
  · rw [if_neg e1]
    by_cases e2 : k = 2
    · rw [if_pos e2]; exact ⟨by show (3 : Int) ≠ 1; decide, by show hasN 3 ≠ 5; decide⟩
    · rw [if_neg e2]
      by_cases e7 : k = 7
      · rw [if_pos e7]
        unfold varI
        split
        · exact ⟨by show (8 : Int) ≠ 1; decide, by show hasN 8 ≠ 5; decide⟩
        · exact ⟨by show (9 : Int) ≠ 1; decide, by show hasN 9 ≠ 5; decide⟩
      · rw [if_neg e7]; exact sameN_has (by omega) (by omega) (by omega)
theorem onI_none {n : Nat} {x : Ins} (h : hasN x.op ≠ 5) : onI n x = x := by unfold onI; rw [if_neg h]
theorem onI_insI {n : Nat} {op arg : Int} (h : hasN op = 5) : onI n (insI op arg) = insI op (arg + n) := by unfold onI insI; rw [if_pos h]
theorem deep_one {k : Nat} {s : List Nat} {n : Int} {ks : List Tr} {f : Nat} (h : (Tr.node k s n ks).deep ≤ f + 1) : deepL ks ≤ f := by simp only [Tr.deep] at h; omega
theorem loop_has {k : Nat} (h1 : 27 ≤ k) (h2 : k ≤ 28) : hasN ((k : Int) + 3) = 5 ∧ (k : Int) + 3 ≠ 1 := by
  rcases (by omega : k = 27 ∨ k = 28) with rfl | rfl <;> decide
theorem loop_not {k : Nat} (h1 : 31 ≤ k) (h2 : k ≤ 34) : hasN ((k : Int) + 4) ≠ 5 ∧ (k : Int) + 4 ≠ 1 := by
  rcases (by omega : k = 31 ∨ k = 32 ∨ k = 33 ∨ k = 34) with rfl | rfl | rfl | rfl <;> decide
theorem cR_last : ∀ (f : Nat) (t : Tr) (vs : List (List Nat)) (m : Int), t.Good → t.deep ≤ f → ∃ b x, cR f t vs m = b ++ [x] ∧ x.op ≠ 1
  | 0, .node k s n ks, vs, m, hg, hd => by simp only [Tr.deep] at hd; omega
  | f + 1, .node k s n ks, vs, m, hg, hd => by
    have hsh := shape_cases hg.1.1
    have hd' := deep_one hd
    rcases hsh with ⟨rfl, h1, h2⟩ | ⟨a, rfl, h1⟩ | ⟨a, b, rfl, h1⟩ | ⟨a, b, c, rfl, h1⟩
    · exact ⟨[insI 1 m], leafI k s n vs, rfl, (leaf_op h1 h2).1⟩
    · exact ⟨_, _, rfl, (sameN_has (by omega) (by omega) (by omega)).1⟩
    · simp only [cR]
      by_cases e1 : k = 27 ∨ k = 28
      · rw [if_pos e1]; exact ⟨_, _, rfl, by decide⟩
      · rw [if_neg e1]
        by_cases e2 : 31 ≤ k ∧ k ≤ 34
        · rw [if_pos e2]; exact ⟨_, _, rfl, by show (40 : Int) ≠ 1; decide⟩
        · rw [if_neg e2]; exact ⟨_, _, rfl, (sameN_has (by omega) (by omega) (by omega)).1⟩
    · subst h1
      simp only [deepL] at hd'
      obtain ⟨b', x, h3, h4⟩ := cR_last f c vs 1 hg.2.2.2.1 (by omega)
      simp only [cR]
      rw [h3, thenN_app]
      exact ⟨_, _, rfl, by show (onI _ x).op ≠ 1; rw [onI_op]; exact h4⟩
theorem then_last {a b : List Ins} (h : ∃ b' x, b = b' ++ [x] ∧ x.op ≠ 1) : preI (thenN a b) = thenN a b ∧ cntI (thenN a b) = 0 ∧ StepsOk (thenN a b) := by
  obtain ⟨b', x, rfl, hx⟩ := h
  rw [thenN_app]
  exact pre_other (x := onI a.length x) (by rw [onI_op]; exact hx)
theorem then_ins (a b : List Ins) (x : Ins) : thenN a (b ++ [x]) = thenN a b ++ [onI a.length x] := by rw [thenN_app]; rfl
theorem then_cons (a : List Ins) (y : Ins) (sec c : List Ins) : thenN (a ++ [y]) sec ++ c = a ++ y :: (sec.map (onI (a.length + 1)) ++ c) := by unfold thenN; simp
theorem end_then (a : List Ins) (op v : Int) (sec : List Ins) (z : Ins) (hv : v = (a.length : Int) + 1 + (sec.length : Int) + 1) : endI (thenN (a ++ [insI op 0]) sec ++ [z]) a.length = thenN (a ++ [insI op v]) sec ++ [z] := by
  rw [then_cons, end_at, then_cons]
  refine congrArg (fun y => a ++ y :: (sec.map (onI (a.length + 1)) ++ [z])) ?_
  unfold insI
  simp
  omega
theorem comp_law : ∀ (f : Nat) (t : Tr) (vs : List (List Nat)) (out : List Ins), t.Good → t.deep ≤ f → StepsOk out → cP f t vs out = thenN (preI out) (cR f t vs (cntI out + 1))
  | 0, .node k s n ks, vs, out, hg, hd, ho => by simp only [Tr.deep] at hd; omega
  | f + 1, .node k s n ks, vs, out, hg, hd, ho => by
    obtain ⟨st1, st2, st3, st4⟩ := step_eq ho
    have hsh := shape_cases hg.1.1
    have hd' := deep_one hd
    rcases hsh with ⟨rfl, h1, h2⟩ | ⟨a, rfl, h1⟩ | ⟨a, b, rfl, h1⟩ | ⟨a, b, c, rfl, h1⟩
    · simp only [cP, cR]
      rw [st1]
      simp only [thenN, List.map_cons, List.map_nil, List.append_assoc, List.cons_append, List.nil_append]
      rw [onI_none (leaf_op h1 h2).2, onI_none (x := insI 1 (cntI out + 1)) (by show hasN 1 ≠ 5; decide)]
    · simp only [deepL] at hd'
      simp only [cP, cR]
      rw [comp_law f a vs (stepI out) hg.2.1 (by omega) st4, st2, st3, then_ins, onI_none (x := ⟨sameN k, 0, 0, txt s⟩) (sameN_has (by omega) (by omega) (by omega)).2]
    · simp only [deepL] at hd'
      have ea := comp_law f a vs (stepI out) hg.2.1 (by omega) st4
      rw [st2, st3] at ea
      simp only [cP, cR]
      rw [ea]
      obtain ⟨oR, hoR⟩ : ∃ x, cR f a vs (cntI out + 1 + 1) = x := ⟨_, rfl⟩
      have hlast := cR_last f a vs (cntI out + 1 + 1) hg.2.1 (by omega)
      rw [hoR] at hlast ⊢
      obtain ⟨p1, p2, p3⟩ := then_last (a := preI out) hlast
      obtain ⟨pre, hpre⟩ : ∃ x, preI out = x := ⟨_, rfl⟩
      rw [hpre] at p1 p2 p3 ⊢
      by_cases e1 : k = 27 ∨ k = 28
      · rw [if_pos e1, if_pos e1]
        have hk := loop_has (k := k) (by omega) (by omega)
        obtain ⟨q1, q2, q3⟩ := pre_other (out := thenN pre oR) (x := insI ((k : Int) + 3) 0) hk.2
        rw [comp_law f b vs _ hg.2.2.1 (by omega) q3, q1, q2]
        obtain ⟨sec, hsec⟩ : ∃ x, cR f b vs (0 + 1) = x := ⟨_, rfl⟩
        rw [show (0 : Int) + 1 = 1 by rfl] at hsec ⊢
        rw [hsec, then_ins, ← thenN_then, then_ins, onI_insI hk.1, onI_none (x := insI 32 0) (by decide)]
        exact end_then _ _ _ _ _ (by rw [thenN_len]; omega)
      · rw [if_neg e1, if_neg e1]
        by_cases e2 : 31 ≤ k ∧ k ≤ 34
        · rw [if_pos e2, if_pos e2]
          have hk := loop_not e2.1 e2.2
          obtain ⟨q1, q2, q3⟩ := pre_other (out := thenN pre oR ++ [insI ((k : Int) + 4) 0]) (x := insI 39 0) (by decide)
          rw [comp_law f b _ _ hg.2.2.1 (by omega) q3, q1, q2]
          obtain ⟨sec, hsec⟩ : ∃ x, cR f b (vs ++ [s]) (0 + 1) = x := ⟨_, rfl⟩
          rw [show (0 : Int) + 1 = 1 by rfl] at hsec ⊢
          rw [hsec, then_ins, ← thenN_then]
          have e3 : thenN pre (oR ++ [insI ((k : Int) + 4) 0, insI 39 ((oR.length : Int) + 2 + (sec.length : Int) + 1)]) = thenN pre oR ++ [insI ((k : Int) + 4) 0] ++ [insI 39 ((oR.length : Int) + 2 + (sec.length : Int) + 1 + (pre.length : Int))] := by
            rw [thenN_app]
            simp only [List.map_cons, List.map_nil]
            rw [onI_none (x := insI ((k : Int) + 4) 0) hk.1, onI_insI (by decide)]
            simp
          rw [e3, onI_insI (op := 40) (by decide)]
          have e4 : (thenN pre oR).length + 1 = (thenN pre oR ++ [insI ((k : Int) + 4) 0]).length := by simp
          have e6 : ((oR.length : Int) + 1 + (pre.length : Int)) = ((thenN pre oR).length : Int) + 1 := by rw [thenN_len]; omega
          rw [e6, e4]
          exact end_then _ _ _ _ _ (by rw [← e4, thenN_len]; omega)
        · rw [if_neg e2, if_neg e2]
          rw [comp_law f b vs _ hg.2.2.1 (by omega) p3, p1, p2, then_ins, ← thenN_then, onI_none (x := ⟨sameN k, 0, 0, txt s⟩) (sameN_has (by omega) (by omega) (by omega)).2]
          rfl
    · subst h1
      simp only [deepL] at hd'
      have ea := comp_law f a vs (stepI out) hg.2.1 (by omega) st4
      rw [st2, st3] at ea
      simp only [cP, cR]
      rw [ea]
      obtain ⟨oR, hoR⟩ : ∃ x, cR f a vs (cntI out + 1 + 1) = x := ⟨_, rfl⟩
      rw [hoR]
      obtain ⟨pre, hpre⟩ : ∃ x, preI out = x := ⟨_, rfl⟩
      rw [hpre]
      obtain ⟨q1, q2, q3⟩ := pre_other (out := thenN pre oR) (x := insI 33 0) (by decide)
      rw [comp_law f b vs _ hg.2.2.1 (by omega) q3, q1, q2]
      obtain ⟨sec, hsec⟩ : ∃ x, cR f b vs (0 + 1) = x := ⟨_, rfl⟩
      rw [show (0 : Int) + 1 = 1 by rfl] at hsec ⊢
      rw [hsec]
      obtain ⟨o1, ho1⟩ : ∃ x, thenN pre oR = x := ⟨_, rfl⟩
      have hl1 : o1.length = pre.length + oR.length := by rw [← ho1, thenN_len]
      rw [ho1]
      obtain ⟨thr, hthr⟩ : ∃ x, cR f c vs 1 = x := ⟨_, rfl⟩
      have e5 := end_then o1 33 ((o1.length : Int) + 1 + (sec.length : Int) + 1) sec (insI 34 0) rfl
      rw [e5]
      obtain ⟨r1, r2, r3⟩ := pre_other (out := thenN (o1 ++ [insI 33 ((o1.length : Int) + 1 + (sec.length : Int) + 1)]) sec) (x := insI 34 0) (by decide)
      rw [comp_law f c vs _ hg.2.2.2.1 (by omega) r3, r1, r2]
      rw [show (0 : Int) + 1 = 1 by rfl, hthr]
      obtain ⟨o2, ho2⟩ : ∃ x, thenN (o1 ++ [insI 33 ((o1.length : Int) + 1 + (sec.length : Int) + 1)]) sec = x := ⟨_, rfl⟩
      have hl2 : o2.length = o1.length + 1 + sec.length := by rw [← ho2, thenN_len]; simp
      rw [← thenN_then, then_ins, ← thenN_then, then_ins, ho1, onI_insI (op := 33) (by decide), onI_insI (op := 34) (by decide)]
      rw [show ((oR.length : Int) + 1 + (sec.length : Int) + 1 + (pre.length : Int)) = ((o1.length : Int) + 1 + (sec.length : Int) + 1) by omega, ho2]
      have hlen2 : (thenN (o1 ++ [insI 33 0]) sec).length = o2.length := by rw [thenN_len, hl2]; simp
      have hlast3 := cR_last f c vs 1 hg.2.2.2.1 (by omega)
      rw [hthr] at hlast3
      obtain ⟨tb, tx, rfl, _⟩ := hlast3
      rw [hlen2, then_ins, then_ins]
      have e7 := end_then o2 34 ((oR.length : Int) + 1 + (sec.length : Int) + 1 + ((tb ++ [tx]).length : Int) + (pre.length : Int)) tb (onI (o2 ++ [insI 34 0]).length tx) (by simp; omega)
      rw [e7]
      simp
end Go.Proofs.YtdkoafmgenbkbaaGreatDoor
