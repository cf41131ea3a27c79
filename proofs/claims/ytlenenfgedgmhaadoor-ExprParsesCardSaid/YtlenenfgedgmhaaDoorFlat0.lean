/- A list of nodes of the call's own: its row, the rows of its parts; what each step leaves of them. -/
import Derived.Test.YtlenenfgedgmhaaDoorKnot
namespace Go.Proofs.YtlenenfgedgmhaaDoor
set_option linter.unusedSimpArgs false
set_option linter.unusedVariables false
open Go.RowKit

theorem placesL_app : ∀ (A B : List Tr) (p : Nat), placesL (A ++ B) p = placesL A p ++ placesL B (p + sizeL A)
  | [], B, p => by simp [placesL, sizeL]
  | t :: A, B, p => by simp only [List.cons_append, placesL, sizeL, placesL_app A B]; rw [Nat.add_assoc]
theorem flatL_app : ∀ (A B : List Tr) (p : Nat), flatL (A ++ B) p = flatL A p ++ flatL B (p + sizeL A)
  | [], B, p => by simp [flatL, sizeL]
  | t :: A, B, p => by simp only [List.cons_append, flatL, sizeL, flatL_app A B, List.append_assoc]; rw [Nat.add_assoc]
theorem sizeL_app : ∀ (A B : List Tr), sizeL (A ++ B) = sizeL A + sizeL B
  | [], B => by simp [sizeL]
  | t :: A, B => by simp only [List.cons_append, sizeL, sizeL_app A B]; omega
theorem deepL_app : ∀ (A B : List Tr), deepL (A ++ B) = max (deepL A) (deepL B)
  | [], B => by simp [deepL]
  | t :: A, B => by simp only [List.cons_append, deepL, deepL_app A B]; omega
theorem placesL_len : ∀ (l : List Tr) (p : Nat), (placesL l p).length = l.length
  | [], _ => rfl
  | t :: l, p => by simp only [placesL, List.length_cons, placesL_len l]
theorem len_le_size : ∀ (l : List Tr), l.length ≤ sizeL l
  | [] => by simp
  | t :: l => by simp only [List.length_cons, sizeL]; have := len_le_size l; have := size_pos t; omega
theorem take_snoc1 {α : Type} {l : List α} {j : Nat} {x : α} (h : l[j]? = some x) : l.take (j + 1) = l.take j ++ [x] := by
  rw [List.take_add_one, h]; rfl
theorem sizeL_take_le : ∀ (l : List Tr) (j : Nat), sizeL (l.take j) ≤ sizeL l
  | [], _ => by simp [sizeL]
  | t :: l, 0 => by simp [sizeL]
  | t :: l, j + 1 => by simp only [List.take_succ_cons, sizeL]; have := sizeL_take_le l j; omega
theorem size_mem : ∀ {l : List Tr} {t : Tr}, t ∈ l → t.size ≤ sizeL l
  | u :: l, t, h => by
    simp only [sizeL]
    rcases List.mem_cons.1 h with rfl | h
    · omega
    · have := size_mem h; omega

/-- a number's cell -/
def IsNat : List Value → Nat → Prop := fun x n => x = [.int .i64 (n : Int)]
/-- a node's cells -/
def IsEN : List Value → EN × Value → Prop := fun x p => x = [.int .i64 (p.1.kind : Int), .string (txt p.1.text), .int .i64 p.1.num, p.2] ∧ ∃ a n c, p.2 = .slice a n c
/-- a list of nodes of the call's own -/
structure EL (X : World) (B : Nat) (v : Value) (es : List (EN × Value)) : Prop where
  main : Own1 X B 46 4 IsEN v es
  kids : ∀ (i : Nat) (p : EN × Value), es[i]? = some p → Own1 X B 3 1 IsNat p.2 p.1.kids
  apart : ∀ (i j : Nat) (p p' : EN × Value) (b : Nat), i ≠ j → es[i]? = some p → es[j]? = some p' → p.2.ownBlock = some b → p'.2.ownBlock ≠ some b
theorem Own1.ne_block {α β : Type} {w : World} {b b' s s' : Nat} {e e' : TypeId} {R : List Value → α → Prop} {R' : List Value → β → Prop} {v v' : Value} {l : List α} {l' : List β} (h : Own1 w b e s R v l) (h' : Own1 w b' e' s' R' v' l') (hne : e ≠ e') : ∀ g, v.ownBlock = some g → v'.ownBlock ≠ some g := by
  intro g hg hg'
  obtain ⟨xs, h1, _⟩ := h
  obtain ⟨ys, k1, _⟩ := h'
  rcases h1.2 with ⟨rfl, _⟩ | ⟨g1, cap, cur, rfl, r2, r3, _⟩
  · cases hg
  · rcases k1.2 with ⟨rfl, _⟩ | ⟨g2, cap2, cur2, rfl, q2, q3, _⟩
    · cases hg'
    · have e1 : g1 = g := by simpa [Value.ownBlock] using hg
      have e2 : g2 = g := by simpa [Value.ownBlock] using hg'
      subst e1
      subst e2
      rw [r3] at q3
      injection q3 with q3
      injection q3 with _ q3
      exact hne q3
/-- what stands in it, and that it may be written -/
theorem Own1.at00 {α : Type} {w : World} {base size n c : Nat} {e : TypeId} {R : List Value → α → Prop} {l : List α} {a : Option Addr} (h : Own1 w base e size R (.slice a n c) l) (hn : 0 < l.length) (hs : 0 < size) : ∃ g, a = some ⟨g, 0, none⟩ ∧ base ≤ g ∧ g < w.heap.size ∧ (∀ o, w.frozen? ⟨g, o, none⟩ = false) ∧ ∀ (k : Nat) (y : α), l[k]? = some y → ∃ x : List Value, x.length = size ∧ R x y ∧ ∀ (j : Nat) (u : Value), x[j]? = some u → w.cell? ⟨g, k * size + j, none⟩ = some u := by
  have hr := h.read hs
  have hb := h.block
  have hf := h.form
  obtain ⟨xs, h1, h2⟩ := h
  obtain ⟨g, rfl⟩ : ∃ g, a = some ⟨g, 0, none⟩ := by
    rcases h1.2 with ⟨h', h0⟩ | ⟨g', cap', cur, h', _⟩
    · omega
    · injection h' with e1; exact ⟨g', e1⟩
  have hg := hb g rfl
  refine ⟨g, rfl, hg.1, hg.2, fun o => ?_, fun k y hy => ?_⟩
  · obtain ⟨a', c', he⟩ := hf
    injection he with _ e2 e3
    subst e2
    exact h1.frozenAt o
  · obtain ⟨b, off, x, he, _, hx, hR, hc⟩ := hr.at_ hy
    injection he with he
    injection he with e1 e2
    subst e1 e2
    refine ⟨x, hx, hR, fun j u hu => ?_⟩
    have := hc j u hu
    rwa [Nat.zero_add] at this
mutual
theorem deep_le : ∀ (t : Tr), t.deep ≤ t.size
  | .node _ _ _ ks => by simp only [Tr.deep, Tr.size]; have := deepL_le ks; omega
theorem deepL_le : ∀ (l : List Tr), deepL l ≤ sizeL l
  | [] => by simp [deepL]
  | t :: ts => by simp only [deepL, sizeL]; have := deep_le t; have := deepL_le ts; omega
end
theorem TreesIn.get {w : World} {S : Nat → Prop} : ∀ {ts : List Tr} {gs : List Nat} {j : Nat} {t : Tr} {g : Nat}, TreesIn w S ts gs → ts[j]? = some t → gs[j]? = some g → TreeIn w S t g
  | [], _, j, t, g, _, h1, _ => by simp at h1
  | u :: ts, gs, 0, t, g, h, h1, h2 => by
    simp only [TreesIn] at h
    obtain ⟨g', gs', rfl, h3, _⟩ := h
    simp at h1 h2
    subst h1 h2
    exact h3
  | u :: ts, gs, j + 1, t, g, h, h1, h2 => by
    simp only [TreesIn] at h
    obtain ⟨g', gs', rfl, _, h4⟩ := h
    simp only [List.getElem?_cons_succ] at h1 h2
    exact TreesIn.get h4 h1 h2
theorem set_mid {α : Type} (A B : List α) (x y : α) (p : Nat) (h : A.length = p) : (A ++ x :: B).set p y = A ++ y :: B := by
  subst h
  rw [List.set_append_right _ _ (Nat.le_refl _), Nat.sub_self]
  rfl
theorem get_mid {α : Type} (A B : List α) (x : α) (p : Nat) (h : A.length = p) : (A ++ x :: B)[p]? = some x := by
  subst h
  rw [List.getElem?_append_right (Nat.le_refl _), Nat.sub_self]
  rfl
theorem wpList_append_list2 {P : Program} {α : Type} {ops : Array Oper} {rest : List Oper} {o : Oper} {a : Act} {Q : Exit → Act → World → Prop} {w : World} (hgd : o.guard = none) (s x : Operand) (t : TypeId)
    (ho : o.op = .call { callee := .builtin .append, args := #[s, x], argTypes := #[t, t] })
    (base B : Nat) (e : TypeId) (i : TypeInfo) (z : Value) (size bytes : Nat) (ht : P.underlying t = some (.slice e)) (hi : P.info? e = some i) (hz : i.zero = some z)
    (hsize : i.size = size) (hby : i.bytes = bytes) (hzs : z.cells.size = size) (hsz : 0 < size) {R : List Value → α → Prop} {l m : List α}
    (v : Value) (hs : a.eval s = v) (hown : Own1 w base e size R v l) (A : Option Addr) (n c : Nat) (hx : a.eval x = .slice A n c) (hsrc : SlR w B size R (.slice A n c) m)
    (N : Nat) (hN : N = l.length + n) (h1 : ∀ x y, R x y → ∀ u ∈ x, u.oneCell' = true) (h63 : l.length + n ≤ maxLen) (hbytes : (l.length + n) * bytes ≤ 140737488355328) (hbase : base ≤ w.heap.size)
    (h : ∀ (a' : Option Addr) (c' : Nat) w', Own1 w' base e size R (.slice a' N c') (l ++ m) → w.grownBy w' v.ownBlock → ((Value.slice a' N c').ownBlock = v.ownBlock ∨ (Value.slice a' N c').ownBlock = some w.heap.size) → wpList P ops Q rest (a.put o.dst (.slice a' N c')) w') : wpList P ops Q (o :: rest) a w := by
  refine wpList_plain hgd fun K hK => ?_
  obtain ⟨v', w', hrun, h2, h3, h4⟩ := run_append_list (P := P) w base B t o.type e i z size bytes ht hi hz hsize hby hzs hsz v hown A n c hsrc h1 h63 hbytes hbase
  unfold Oper.wp execOp
  simp only [ho, resolve, invoke, builtin, Sem.run_bind, Sem.run_pure, Result.andThen_ok, List.map_toArray, List.map_cons, List.map_nil, hs, hx, hrun]
  obtain ⟨a', c', rfl⟩ := h2.form
  have e : (l ++ m).length = N := by rw [hN, List.length_append, hsrc.len]
  rw [e] at h2 h4 ⊢
  exact hK _ _ (h a' c' w' h2 h3 h4)
section
variable {X : World} {B : Nat} {v : Value} {es : List (EN × Value)}
theorem EL.nil (X : World) (B : Nat) : EL X B (.slice none 0 0) [] := ⟨⟨[], ⟨rfl, .inl ⟨rfl, rfl⟩⟩, FlatR.nil_⟩, fun i p h => by simp at h, fun i j p p' b _ h => by simp at h⟩
theorem EL.alloc (h : EL X B v es) (o : Obj) : EL (X.alloc o) B v es := ⟨h.main.alloc o, fun i p hp => (h.kids i p hp).alloc o, h.apart⟩
theorem EL.drewN (h : EL X B v es) (n : Nat) : EL (X.drewN n) B v es := ⟨h.main.drewN n, fun i p hp => (h.kids i p hp).drewN n, h.apart⟩
/-- a node more -/
theorem EL.push (h : EL X B v es) {X' : World} {v' : Value} {e : EN} (he : e.kids = []) (hm : Own1 X' B 46 4 IsEN v' (es ++ [(e, .slice none 0 0)])) (hg : X.grownBy X' v.ownBlock) : EL X' B v' (es ++ [(e, .slice none 0 0)]) := by
  refine ⟨hm, fun i p hp => ?_, fun i j p p' b hij hi hj hb => ?_⟩
  · rcases Nat.lt_or_ge i es.length with hl | hl
    · rw [List.getElem?_append_left hl] at hp
      exact (h.kids i p hp).kept1 h.main (by decide) hg
    · rw [List.getElem?_append_right hl] at hp
      have : i - es.length = 0 := by
        rcases Nat.eq_zero_or_pos (i - es.length) with h0 | h0
        · exact h0
        · rw [List.getElem?_eq_none (by simp; omega)] at hp; cases hp
      rw [this] at hp
      simp at hp
      subst hp
      rw [he]
      exact ⟨[], ⟨rfl, .inl ⟨rfl, rfl⟩⟩, FlatR.nil_⟩
  · have key : ∀ (i : Nat) (p : EN × Value), (es ++ [(e, Value.slice none 0 0)])[i]? = some p → es[i]? = some p ∨ p.2 = .slice none 0 0 := by
      intro i p hp
      rcases Nat.lt_or_ge i es.length with hl | hl
      · rw [List.getElem?_append_left hl] at hp; exact .inl hp
      · rw [List.getElem?_append_right hl] at hp
        have : p ∈ [(e, Value.slice none 0 0)] := List.mem_iff_getElem?.2 ⟨_, hp⟩
        simp at this
        subst this
        exact .inr rfl
    rcases key i p hi with h1 | h1
    · rcases key j p' hj with h2 | h2
      · exact h.apart i j p p' b hij h1 h2 hb
      · rw [h2]; exact fun e => by cases e
    · rw [h1] at hb; cases hb
theorem flat_set3 {xs : List Value} {p : Nat} {e : EN} {kv kv' : Value} {ks : List Nat} (h : FlatR 4 IsEN xs es) (hp : es[p]? = some (e, kv)) (hkv : ∃ a n c, kv' = .slice a n c) : FlatR 4 IsEN (xs.set (p * 4 + 3) kv') (es.set p (⟨e.kind, e.text, e.num, ks⟩, kv')) := by
  have hpl := (List.getElem?_eq_some_iff.1 hp).1
  have hle : p * 4 + 4 ≤ xs.length := by rw [h.1]; omega
  refine ⟨by rw [List.length_set, List.length_set]; exact h.1, fun i y hy => ?_⟩
  by_cases hi : i = p
  · subst hi
    rw [List.getElem?_set_self hpl] at hy
    injection hy with hy
    subst hy
    have h0 := (h.2 i _ hp).1
    refine ⟨?_, hkv⟩
    have e1 : ((xs.set (i * 4 + 3) kv').drop (i * 4)).take 4 = ((xs.drop (i * 4)).take 4).set 3 kv' := by
      apply List.ext_getElem?
      intro m
      rw [List.getElem?_set, List.getElem?_take, List.length_take, List.length_drop]
      split
      · rename_i hm
        rw [List.getElem?_drop, List.getElem?_set]
        by_cases h3 : 3 = m
        · subst h3
          simp only [if_true]
          rw [if_pos (by omega), if_pos (by omega)]
        · rw [if_neg (by omega), if_neg h3, List.getElem?_take_of_lt hm, List.getElem?_drop]
      · rename_i hm
        rw [if_neg (by omega), List.getElem?_take, if_neg hm]
    rw [e1, h0]
    rfl
  · rw [List.getElem?_set_ne (fun e => hi e.symm)] at hy
    have e1 : ((xs.set (p * 4 + 3) kv').drop (i * 4)).take 4 = (xs.drop (i * 4)).take 4 := by
      apply List.ext_getElem?
      intro m
      rw [List.getElem?_take, List.getElem?_take]
      split
      · rw [List.getElem?_drop, List.getElem?_drop, List.getElem?_set_ne (by omega)]
      · rfl
    rw [e1]
    exact h.2 i y hy
/-- a part more in a node's row: behind the alloc of the number, the append, the store -/
theorem EL.kid {n c g p q : Nat} {e : EN} {kv kv' : Value} {X2 : World} (h : EL X B (.slice (some ⟨g, 0, none⟩) n c) es) (hp : es[p]? = some (e, kv)) (hkv : ∃ a n c, kv' = .slice a n c) (o : Obj)
    (hown : Own1 X2 B 3 1 IsNat kv' (e.kids ++ [q])) (hg : (X.alloc o).grownBy X2 kv.ownBlock) (hat : kv'.ownBlock = kv.ownBlock ∨ kv'.ownBlock = some (X.heap.size + 1)) :
    EL (X2.setCell ⟨g, p * 4 + 3, none⟩ kv') B (.slice (some ⟨g, 0, none⟩) n c) (es.set p (⟨e.kind, e.text, e.num, e.kids ++ [q]⟩, kv')) := by
  have h1 := h.alloc o
  have hpl := (List.getElem?_eq_some_iff.1 hp).1
  have m2 : Own1 X2 B 46 4 IsEN (.slice (some ⟨g, 0, none⟩) n c) es := h1.main.kept1 (h1.kids p _ hp) (by decide) hg
  have hnl : n = es.length := by obtain ⟨a', c', he⟩ := m2.form; injection he
  have kk : ∀ (i : Nat) (x : EN × Value), i ≠ p → es[i]? = some x → Own1 X2 B 3 1 IsNat x.2 x.1.kids := fun i x hi hx => (h1.kids i x hx).stay (fun b hb hl => hg.block b hl (fun e' => h.apart i p x _ b hi hx hp hb e'.symm))
  have far : ∀ {v1 : Value} {l1 : List Nat}, Own1 X2 B 3 1 IsNat v1 l1 → Own1 (X2.setCell ⟨g, p * 4 + 3, none⟩ kv') B 3 1 IsNat v1 l1 := fun ho => ho.stay (fun b hb _ => Below.heap_setCell X2 ⟨g, p * 4 + 3, none⟩ kv' b (fun e' => m2.ne_block ho (by decide) g rfl (by rw [hb]; exact congrArg some e')))
  refine ⟨?_, fun i x hx => ?_, fun i j x x' b hij hi hj hb => ?_⟩
  · obtain ⟨xs, k1, k2⟩ := m2
    subst hnl
    exact ⟨_, by rw [List.length_set]; exact (k1.stored (p * 4 + 3) kv').1, flat_set3 k2 hp hkv⟩
  · by_cases hi : i = p
    · subst hi
      rw [List.getElem?_set_self hpl] at hx
      injection hx with hx
      subst hx
      exact far hown
    · rw [List.getElem?_set_ne (fun e' => hi e'.symm)] at hx
      exact far (kk i x hi hx)
  · have old : ∀ (i : Nat) (x : EN × Value) (b : Nat), es[i]? = some x → x.2.ownBlock = some b → b < X.heap.size := fun i x b hx hb => ((h.kids i x hx).block b hb).2
    by_cases hip : i = p
    · subst hip
      rw [List.getElem?_set_self hpl] at hi
      injection hi with hi
      subst hi
      rw [List.getElem?_set_ne hij] at hj
      intro e'
      have hb' : kv'.ownBlock = some b := hb
      rcases hat with h2 | h2
      · exact h.apart i j _ _ b hij hp hj (by rw [← h2]; exact hb') e'
      · rw [h2] at hb'
        injection hb' with hb'
        have := old j x' b hj e'
        omega
    · rw [List.getElem?_set_ne (fun e' => hip e'.symm)] at hi
      by_cases hjp : j = p
      · subst hjp
        rw [List.getElem?_set_self hpl] at hj
        injection hj with hj
        subst hj
        intro e'
        have hb' : kv'.ownBlock = some b := e'
        rcases hat with h2 | h2
        · exact h.apart i j _ _ b hij hi hp hb (by rw [← h2]; exact hb')
        · rw [h2] at hb'
          injection hb' with hb'
          have := old i x b hi hb
          omega
      · rw [List.getElem?_set_ne (fun e' => hjp e'.symm)] at hj
        exact h.apart i j x x' b hij hi hj hb
end
end Go.Proofs.YtlenenfgedgmhaaDoor
