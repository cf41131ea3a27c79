/- - - - - - -/
import Derived.Test.YtpkggobhhieeoaaDoorKM5
import Derived.Test.YtpkggobhhieeoaaDoorKM4
set_option maxRecDepth 100000
set_option maxHeartbeats 32000000
set_option linter.unusedSimpArgs false
set_option linter.unusedVariables false
namespace Go.Proofs.YtpkggobhhieeoaaDoor
open Go.RowKit
theorem placesL_app : ∀ (A B : List Tr) (p : Nat), placesL (A ++ B) p = placesL A p ++ placesL B (p + sizeL A)
  | [], B, p => by simp [placesL, sizeL]
  | t :: A, B, p => by simp only [List.cons_append, placesL, sizeL, placesL_app A B]; rw [Nat.add_assoc]
theorem flatL_app : ∀ (A B : List Tr) (p : Nat), flatL (A ++ B) p = flatL A p ++ flatL B (p + sizeL A)
  | [], B, p => by simp [flatL, sizeL]
  | t :: A, B, p => by simp only [List.cons_append, flatL, sizeL, flatL_app A B, List.append_assoc]; rw [Nat.add_assoc]
theorem sizeL_app : ∀ (A B : List Tr), sizeL (A ++ B) = sizeL A + sizeL B
  | [], B => by simp [sizeL]
  | t :: A, B => by simp only [List.cons_append, sizeL, sizeL_app A B]; omega
theorem deepL_app : ∀ (A B : List Tr), deepL (A ++ B) = max (deepL A) (deepL B)
  | [], B => by simp [deepL]
  | t :: A, B => by simp only [List.cons_append, deepL, deepL_app A B]; omega
theorem placesL_len : ∀ (l : List Tr) (p : Nat), (placesL l p).length = l.length
  | [], _ => rfl
  | t :: l, p => by simp only [placesL, List.length_cons, placesL_len l]
theorem len_le_size : ∀ (l : List Tr), l.length ≤ sizeL l
  | [] => by simp
  | t :: l => by simp only [List.length_cons, sizeL]; have := len_le_size l; have := size_pos t; omega
theorem take_snoc1 {α : Type} {l : List α} {j : Nat} {x : α} (h : l[j]? = some x) : l.take (j + 1) = l.take j ++ [x] := by
  rw [List.take_add_one, h]; rfl
theorem sizeL_take_le : ∀ (l : List Tr) (j : Nat), sizeL (l.take j) ≤ sizeL l
  | [], _ => by simp [sizeL]
  | t :: l, 0 => by simp [sizeL]
  | t :: l, j + 1 => by simp only [List.take_succ_cons, sizeL]; have := sizeL_take_le l j; omega
theorem size_mem : ∀ {l : List Tr} {t : Tr}, t ∈ l → t.size ≤ sizeL l
  | u :: l, t, h => by
    simp only [sizeL]
    rcases List.mem_cons.1 h with rfl | h
    · omega
    · have := size_mem h; omega
def IsNat : List Value → Nat → Prop := fun x n => x = [.int .i64 (n : Int)]
def IsEN : List Value → EN × Value → Prop := fun x p => x = [.int .i64 (p.1.kind : Int), .string (txt p.1.text), .int .i64 p.1.num, p.2] ∧ ∃ a n c, p.2 = .slice a n c
structure EL (X : World) (B : Nat) (v : Value) (es : List (EN × Value)) : Prop where
  main : Own1 X B 116 4 IsEN v es
  kids : ∀ (i : Nat) (p : EN × Value), es[i]? = some p → Own1 X B 3 1 IsNat p.2 p.1.kids
  apart : ∀ (i j : Nat) (p p' : EN × Value) (b : Nat), i ≠ j → es[i]? = some p → es[j]? = some p' → p.2.ownBlock = some b → p'.2.ownBlock ≠ some b
theorem Own1.ne_block {α β : Type} {w : World} {b b' s s' : Nat} {e e' : TypeId} {R : List Value → α → Prop} {R' : List Value → β → Prop} {v v' : Value} {l : List α} {l' : List β} (h : Own1 w b e s R v l) (h' : Own1 w b' e' s' R' v' l') (hne : e ≠ e') : ∀ g, v.ownBlock = some g → v'.ownBlock ≠ some g := by
  intro g hg hg'
  obtain ⟨xs, h1, _⟩ := h
  obtain ⟨ys, k1, _⟩ := h'
  rcases h1.2 with ⟨rfl, _⟩ | ⟨g1, cap, cur, rfl, r2, r3, _⟩
  · cases hg
  · rcases k1.2 with ⟨rfl, _⟩ | ⟨g2, cap2, cur2, rfl, q2, q3, _⟩
    · cases hg'
    · have e1 : g1 = g := by simpa [Value.ownBlock] using hg
      have e2 : g2 = g := by simpa [Value.ownBlock] using hg'
      subst e1
      subst e2
      rw [r3] at q3
      injection q3 with q3
      injection q3 with _ q3
      exact hne q3
theorem Own1.at00 {α : Type} {w : World} {base size n c : Nat} {e : TypeId} {R : List Value → α → Prop} {l : List α} {a : Option Addr} (h : Own1 w base e size R (.slice a n c) l) (hn : 0 < l.length) (hs : 0 < size) : ∃ g, a = some ⟨g, 0, none⟩ ∧ base ≤ g ∧ g < w.heap.size ∧ (∀ o, w.frozen? ⟨g, o, none⟩ = false) ∧ ∀ (k : Nat) (y : α), l[k]? = some y → ∃ x : List Value, x.length = size ∧ R x y ∧ ∀ (j : Nat) (u : Value), x[j]? = some u → w.cell? ⟨g, k * size + j, none⟩ = some u := by
  have hr := h.read hs
  have hb := h.block
  have hf := h.form
  obtain ⟨xs, h1, h2⟩ := h
  obtain ⟨g, rfl⟩ : ∃ g, a = some ⟨g, 0, none⟩ := by
    rcases h1.2 with ⟨h', h0⟩ | ⟨g', cap', cur, h', _⟩
    · omega
    · injection h' with e1; exact ⟨g', e1⟩
  have hg := hb g rfl
  refine ⟨g, rfl, hg.1, hg.2, fun o => ?_, fun k y hy => ?_⟩
  · obtain ⟨a', c', he⟩ := hf
    injection he with _ e2 e3
    subst e2
    exact h1.frozenAt o
  · obtain ⟨b, off, x, he, _, hx, hR, hc⟩ := hr.at_ hy
    injection he with he
    injection he with e1 e2
    subst e1 e2
    refine ⟨x, hx, hR, fun j u hu => ?_⟩
    have := hc j u hu
    rwa [Nat.zero_add] at this
mutual
theorem deep_le : ∀ (t : Tr), t.deep ≤ t.size
  | .node _ _ _ ks => by simp only [Tr.deep, Tr.size]; have := deepL_le ks; omega
theorem deepL_le : ∀ (l : List Tr), deepL l ≤ sizeL l
  | [] => by simp [deepL]
  | t :: ts => by simp only [deepL, sizeL]; have := deep_le t; have := deepL_le ts; omega
end
theorem TreesIn.get {w : World} {S : Nat → Prop} : ∀ {ts : List Tr} {gs : List Nat} {j : Nat} {t : Tr} {g : Nat}, TreesIn w S ts gs → ts[j]? = some t → gs[j]? = some g → TreeIn w S t g
  | [], _, j, t, g, _, h1, _ => by simp at h1
  | u :: ts, gs, 0, t, g, h, h1, h2 => by
    simp only [TreesIn] at h
    obtain ⟨g', gs', rfl, h3, _⟩ := h
    simp at h1 h2
    subst h1 h2
    exact h3
  | u :: ts, gs, j + 1, t, g, h, h1, h2 => by
    simp only [TreesIn] at h
    obtain ⟨g', gs', rfl, _, h4⟩ := h
    simp only [List.getElem?_cons_succ] at h1 h2
    exact TreesIn.get h4 h1 h2
theorem set_mid {α : Type} (A B : List α) (x y : α) (p : Nat) (h : A.length = p) : (A ++ x :: B).set p y = A ++ y :: B := by
  subst h
  rw [List.set_append_right _ _ zL, Nat.sub_self]
  rfl
theorem get_mid {α : Type} (A B : List α) (x : α) (p : Nat) (h : A.length = p) : (A ++ x :: B)[p]? = some x := by
  subst h
  rw [List.getElem?_append_right zL, Nat.sub_self]
  rfl
theorem wpList_append_list2 {P : Program} {α : Type} {ops : Array Oper} {rest : List Oper} {o : Oper} {a : Act} {Q : Exit → Act → World → Prop} {w : World} (hgd : o.guard = none) (s x : Operand) (t : TypeId)
    (ho : o.op = .call { callee := .builtin .append, args := #[s, x], argTypes := #[t, t] })
    (base B : Nat) (e : TypeId) (i : TypeInfo) (z : Value) (size bytes : Nat) (ht : P.underlying t = some (.slice e)) (hi : P.info? e = some i) (hz : i.zero = some z)
    (hsize : i.size = size) (hby : i.bytes = bytes) (hzs : z.cells.size = size) (hsz : 0 < size) {R : List Value → α → Prop} {l m : List α}
    (v : Value) (hs : a.eval s = v) (hown : Own1 w base e size R v l) (A : Option Addr) (n c : Nat) (hx : a.eval x = .slice A n c) (hsrc : SlR w B size R (.slice A n c) m)
    (N : Nat) (hN : N = l.length + n) (h1 : ∀ x y, R x y → ∀ u ∈ x, u.oneCell' = true) (h63 : l.length + n ≤ maxLen) (hbytes : (l.length + n) * bytes ≤ 140737488355328) (hbase : base ≤ w.heap.size)
    (h : ∀ (a' : Option Addr) (c' : Nat) w', Own1 w' base e size R (.slice a' N c') (l ++ m) → w.grownBy w' v.ownBlock → ((Value.slice a' N c').ownBlock = v.ownBlock ∨ (Value.slice a' N c').ownBlock = some w.heap.size) → wpList P ops Q rest (a.put o.dst (.slice a' N c')) w') : wpList P ops Q (o :: rest) a w := by
  refine wpList_plain hgd fun K hK => ?_
  obtain ⟨v', w', hrun, h2, h3, h4⟩ := run_append_list (P := P) w base B t o.type e i z size bytes ht hi hz hsize hby hzs hsz v hown A n c hsrc h1 h63 hbytes hbase
  unfold Oper.wp execOp
  simp only [ho, resolve, invoke, builtin, Sem.run_bind, Sem.run_pure, Result.andThen_ok, List.map_toArray, List.map_cons, List.map_nil, hs, hx, hrun]
  obtain ⟨a', c', rfl⟩ := h2.form
  have e : (l ++ m).length = N := by rw [hN, List.length_append, hsrc.len]
  rw [e] at h2 h4 ⊢
  exact hK _ _ (h a' c' w' h2 h3 h4)
section
variable {X : World} {B : Nat} {v : Value} {es : List (EN × Value)}
theorem EL.nil (X : World) (B : Nat) : EL X B (.slice none 0 0) [] := ⟨⟨[], ⟨rfl, .inl ⟨rfl, rfl⟩⟩, FlatR.nil_⟩, fun i p h => by simp at h, fun i j p p' b _ h => by simp at h⟩
theorem EL.alloc (h : EL X B v es) (o : Obj) : EL (X.alloc o) B v es := ⟨h.main.alloc o, fun i p hp => (h.kids i p hp).alloc o, h.apart⟩
theorem EL.drewN (h : EL X B v es) (n : Nat) : EL (X.drewN n) B v es := ⟨h.main.drewN n, fun i p hp => (h.kids i p hp).drewN n, h.apart⟩
theorem EL.push (h : EL X B v es) {X' : World} {v' : Value} {e : EN} (he : e.kids = []) (hm : Own1 X' B 116 4 IsEN v' (es ++ [(e, .slice none 0 0)])) (hg : X.grownBy X' v.ownBlock) : EL X' B v' (es ++ [(e, .slice none 0 0)]) := by
  refine ⟨hm, fun i p hp => ?_, fun i j p p' b hij hi hj hb => ?_⟩
  · rcases Nat.lt_or_ge i es.length with hl | hl
    · rw [List.getElem?_append_left hl] at hp
      exact (h.kids i p hp).kept1 h.main (by decide) hg
    · rw [List.getElem?_append_right hl] at hp
      have : i - es.length = 0 := by
        rcases Nat.eq_zero_or_pos (i - es.length) with h0 | h0
        · exact h0
        · rw [List.getElem?_eq_none (by simp; omega)] at hp; cases hp
      rw [this] at hp
      simp at hp
      subst hp
      rw [he]
      exact ⟨[], ⟨rfl, .inl ⟨rfl, rfl⟩⟩, FlatR.nil_⟩
  · have key : ∀ (i : Nat) (p : EN × Value), (es ++ [(e, Value.slice none 0 0)])[i]? = some p → es[i]? = some p ∨ p.2 = .slice none 0 0 := by
      intro i p hp
      rcases Nat.lt_or_ge i es.length with hl | hl
      · rw [List.getElem?_append_left hl] at hp; exact .inl hp
      · rw [List.getElem?_append_right hl] at hp
        have : p ∈ [(e, Value.slice none 0 0)] := List.mem_iff_getElem?.2 ⟨_, hp⟩
        simp at this
        subst this
        exact .inr rfl
    rcases key i p hi with h1 | h1
    · rcases key j p' hj with h2 | h2
      · exact h.apart i j p p' b hij h1 h2 hb
      · rw [h2]; exact fun e => by cases e
    · rw [h1] at hb; cases hb
theorem flat_set3 {xs : List Value} {p : Nat} {e : EN} {kv kv' : Value} {ks : List Nat} (h : FlatR 4 IsEN xs es) (hp : es[p]? = some (e, kv)) (hkv : ∃ a n c, kv' = .slice a n c) : FlatR 4 IsEN (xs.set (p * 4 + 3) kv') (es.set p (⟨e.kind, e.text, e.num, ks⟩, kv')) := by
  have hpl := (List.getElem?_eq_some_iff.1 hp).1
  have hle : p * 4 + 4 ≤ xs.length := by rw [h.1]; omega
  refine ⟨by rw [List.length_set, List.length_set]; exact h.1, fun i y hy => ?_⟩
  by_cases hi : i = p
  · subst hi
    rw [List.getElem?_set_self hpl] at hy
    injection hy with hy
    subst hy
    have h0 := (h.2 i _ hp).1
    refine ⟨?_, hkv⟩
    have e1 : ((xs.set (i * 4 + 3) kv').drop (i * 4)).take 4 = ((xs.drop (i * 4)).take 4).set 3 kv' := by
      apply List.ext_getElem?
      intro m
      rw [List.getElem?_set, List.getElem?_take, List.length_take, List.length_drop]
      split
      · rename_i hm
        rw [List.getElem?_drop, List.getElem?_set]
        by_cases h3 : 3 = m
        · subst h3
          simp only [if_true]
          rw [if_pos (by omega), if_pos (by omega)]
        · rw [if_neg (by omega), if_neg h3, List.getElem?_take_of_lt hm, List.getElem?_drop]
      · rename_i hm
        rw [if_neg (by omega), List.getElem?_take, if_neg hm]
    rw [e1, h0]
    rfl
  · rw [List.getElem?_set_ne (fun e => hi e.symm)] at hy
    have e1 : ((xs.set (p * 4 + 3) kv').drop (i * 4)).take 4 = (xs.drop (i * 4)).take 4 := by
      apply List.ext_getElem?
      intro m
      rw [List.getElem?_take, List.getElem?_take]
      split
      · rw [List.getElem?_drop, List.getElem?_drop, List.getElem?_set_ne (by omega)]
      · rfl
    rw [e1]
    exact h.2 i y hy
theorem EL.kid {n c g p q : Nat} {e : EN} {kv kv' : Value} {X2 : World} (h : EL X B (.slice (some ⟨g, 0, none⟩) n c) es) (hp : es[p]? = some (e, kv)) (hkv : ∃ a n c, kv' = .slice a n c) (o : Obj)
    (hown : Own1 X2 B 3 1 IsNat kv' (e.kids ++ [q])) (hg : (X.alloc o).grownBy X2 kv.ownBlock) (hat : kv'.ownBlock = kv.ownBlock ∨ kv'.ownBlock = some (X.heap.size + 1)) :
    EL (X2.setCell ⟨g, p * 4 + 3, none⟩ kv') B (.slice (some ⟨g, 0, none⟩) n c) (es.set p (⟨e.kind, e.text, e.num, e.kids ++ [q]⟩, kv')) := by
  have h1 := h.alloc o
  have hpl := (List.getElem?_eq_some_iff.1 hp).1
  have m2 : Own1 X2 B 116 4 IsEN (.slice (some ⟨g, 0, none⟩) n c) es := h1.main.kept1 (h1.kids p _ hp) (by decide) hg
  have hnl : n = es.length := by obtain ⟨a', c', he⟩ := m2.form; injection he
  have kk : ∀ (i : Nat) (x : EN × Value), i ≠ p → es[i]? = some x → Own1 X2 B 3 1 IsNat x.2 x.1.kids := fun i x hi hx => (h1.kids i x hx).stay (fun b hb hl => hg.block b hl (fun e' => h.apart i p x _ b hi hx hp hb e'.symm))
  have far : ∀ {v1 : Value} {l1 : List Nat}, Own1 X2 B 3 1 IsNat v1 l1 → Own1 (X2.setCell ⟨g, p * 4 + 3, none⟩ kv') B 3 1 IsNat v1 l1 := fun ho => ho.stay (fun b hb _ => Below.heap_setCell X2 ⟨g, p * 4 + 3, none⟩ kv' b (fun e' => m2.ne_block ho (by decide) g rfl (by rw [hb]; exact congrArg some e')))
  refine ⟨?_, fun i x hx => ?_, fun i j x x' b hij hi hj hb => ?_⟩
  · obtain ⟨xs, k1, k2⟩ := m2
    subst hnl
    exact ⟨_, by rw [List.length_set]; exact (k1.stored (p * 4 + 3) kv').1, flat_set3 k2 hp hkv⟩
  · by_cases hi : i = p
    · subst hi
      rw [List.getElem?_set_self hpl] at hx
      injection hx with hx
      subst hx
      exact far hown
    · rw [List.getElem?_set_ne (fun e' => hi e'.symm)] at hx
      exact far (kk i x hi hx)
  · have old : ∀ (i : Nat) (x : EN × Value) (b : Nat), es[i]? = some x → x.2.ownBlock = some b → b < X.heap.size := fun i x b hx hb => ((h.kids i x hx).block b hb).2
    by_cases hip : i = p
    · subst hip
      rw [List.getElem?_set_self hpl] at hi
      injection hi with hi
      subst hi
      rw [List.getElem?_set_ne hij] at hj
      intro e'
      have hb' : kv'.ownBlock = some b := hb
      rcases hat with h2 | h2
      · exact h.apart i j _ _ b hij hp hj (by rw [← h2]; exact hb') e'
      · rw [h2] at hb'
        injection hb' with hb'
        have := old j x' b hj e'
        omega
    · rw [List.getElem?_set_ne (fun e' => hip e'.symm)] at hi
      by_cases hjp : j = p
      · subst hjp
        rw [List.getElem?_set_self hpl] at hj
        injection hj with hj
        subst hj
        intro e'
        have hb' : kv'.ownBlock = some b := e'
        rcases hat with h2 | h2
        · exact h.apart i j _ _ b hij hi hp hb (by rw [← h2]; exact hb')
        · rw [h2] at hb'
          injection hb' with hb'
          have := old i x b hi hb
          omega
      · rw [List.getElem?_set_ne (fun e' => hjp e'.symm)] at hj
        exact h.apart i j x x' b hij hi hj hb
end
end Go.Proofs.YtpkggobhhieeoaaDoor
namespace Go.Proofs.YtpkggobhhieeoaaDoor
open Go.RowKit
structure Bx (w : World) (B : Nat) (v : Value) (at_ err : Int) : Prop where
  e : Blk w B 69 #[v]
  at_ : Blk w (B + 1) 3 #[.int .i64 at_]
  err : Blk w (B + 2) 23 #[.int .i64 err]
theorem Bx.below {w w' : World} {B : Nat} {v : Value} {a e : Int} (h : Bx w B v a e) {C : Nat} (hb : Below C w w') (hC : B + 2 < C) : Bx w' B v a e :=
  ⟨h.e.below hb (by omega), h.at_.below hb (by omega), h.err.below hb hC⟩
theorem Bx.new (w : World) : Bx (((w.alloc (.cells #[.slice none 0 0] 69)).alloc (.cells #[.int .i64 0] 3)).alloc (.cells #[.int .i64 0] 23)) w.heap.size (.slice none 0 0) 0 0 :=
  ⟨((Blk.new _ _ _).alloc _).alloc _, (Blk.new_ (by simp) _ _).alloc _, Blk.new_ (by simp) _ _⟩
theorem Bx.cells {w : World} {B : Nat} {v : Value} {a e : Int} (h : Bx w B v a e) : w.cell? ⟨B, 0, none⟩ = some v ∧ w.cell? ⟨B + 1, 0, none⟩ = some (.int .i64 a) ∧ w.cell? ⟨B + 2, 0, none⟩ = some (.int .i64 e) ∧ w.frozen? ⟨B, 0, none⟩ = false ∧ w.frozen? ⟨B + 1, 0, none⟩ = false ∧ w.frozen? ⟨B + 2, 0, none⟩ = false ∧ B + 2 < w.heap.size :=
  ⟨h.e.cell rfl, h.at_.cell rfl, h.err.cell rfl, h.e.frozen 0, h.at_.frozen 0, h.err.frozen 0, h.err.lt⟩
theorem Bx.set {w : World} {B : Nat} {v : Value} {a e : Int} (h : Bx w B v a e) (v' : Value) (a' e' : Int) : Bx (((w.setCell ⟨B, 0, none⟩ v').setCell ⟨B + 1, 0, none⟩ (.int .i64 a')).setCell ⟨B + 2, 0, none⟩ (.int .i64 e')) B v' a' e' ∧ Below B w (((w.setCell ⟨B, 0, none⟩ v').setCell ⟨B + 1, 0, none⟩ (.int .i64 a')).setCell ⟨B + 2, 0, none⟩ (.int .i64 e')) :=
  ⟨⟨by have := ((h.e.set_ 0 v').far (p := ⟨B + 1, 0, none⟩) (by show B ≠ B + 1; omega) (.int .i64 a')).far (p := ⟨B + 2, 0, none⟩) (by show B ≠ B + 2; omega) (.int .i64 e'); simpa using this,
    by have := ((h.at_.far (p := ⟨B, 0, none⟩) (by show B + 1 ≠ B; omega) v').set_ 0 (.int .i64 a')).far (p := ⟨B + 2, 0, none⟩) (by show B + 1 ≠ B + 2; omega) (.int .i64 e'); simpa using this,
    by have := ((h.err.far (p := ⟨B, 0, none⟩) (by show B + 2 ≠ B; omega) v').far (p := ⟨B + 1, 0, none⟩) (by show B + 2 ≠ B + 1; omega) (.int .i64 a')).set_ 0 (.int .i64 e'); simpa using this⟩,
   (((Below.refl B w).setCell (p := ⟨B, 0, none⟩) (Nat.le_refl B) _).setCell (p := ⟨B + 1, 0, none⟩) (Nat.le_succ B) _).setCell (p := ⟨B + 2, 0, none⟩) (by show B ≤ B + 2; omega) _⟩
theorem Bx.set2 {w : World} {B : Nat} {v : Value} {a e : Int} (h : Bx w B v a e) (a' e' : Int) : Bx ((w.setCell ⟨B + 1, 0, none⟩ (.int .i64 a')).setCell ⟨B + 2, 0, none⟩ (.int .i64 e')) B v a' e' ∧ Below B w ((w.setCell ⟨B + 1, 0, none⟩ (.int .i64 a')).setCell ⟨B + 2, 0, none⟩ (.int .i64 e')) :=
  ⟨⟨by have := (h.e.far (p := ⟨B + 1, 0, none⟩) (by show B ≠ B + 1; omega) (.int .i64 a')).far (p := ⟨B + 2, 0, none⟩) (by show B ≠ B + 2; omega) (.int .i64 e'); simpa using this,
    by have := (h.at_.set_ 0 (.int .i64 a')).far (p := ⟨B + 2, 0, none⟩) (by show B + 1 ≠ B + 2; omega) (.int .i64 e'); simpa using this,
    by have := (h.err.far (p := ⟨B + 1, 0, none⟩) (by show B + 2 ≠ B + 1; omega) (.int .i64 a')).set_ 0 (.int .i64 e'); simpa using this⟩,
   ((Below.refl B w).setCell (p := ⟨B + 1, 0, none⟩) (Nat.le_succ B) _).setCell (p := ⟨B + 2, 0, none⟩) (by show B ≤ B + 2; omega) _⟩
theorem catch_wrong (B : Nat) (k a0 e0 : Int) (older : List PanicEntry) (w : World) (v : Value) (hv : ∃ a n c, v = .slice a n c) (hb : Bx w B v a0 e0) :
    CallsD Tryd.prog 54 #[.pointer (some ⟨B, 0, none⟩), .pointer (some ⟨B + 1, 0, none⟩), .pointer (some ⟨B + 2, 0, none⟩)] (.panicking ({ v := .iface 98 (.agg #[.int .i64 k]), recovered := false } :: older)) w fun e u' w' =>
      e = .returned (.tuple #[]) ∧ u' = .panicking ({ v := .iface 98 (.agg #[.int .i64 k]), recovered := true } :: older) ∧ Below B w w' ∧ Bx w' B (.slice none 0 0) k 80 := by
  obtain ⟨q0, q1, q2, f0, f1, f2, lg⟩ := hb.cells
  have l0 : B < w.heap.size := by omega
  have l1 : B + 1 < w.heap.size := by omega
  have Hb := zH hb
  clear hb
  have has : ∀ (v : Value) (W : World), (Instr.typeAssert (.iface 98 v) 20 98 true).run Tryd.prog W = .ok (.tuple #[v, .bool true]) W := by intros; kernel_rfl
  refine callsD_of_wpS Tryd.func54 rfl fun c₀ cs hu => ?_
  simp only [Tryd.ntmps54, List.size_toArray, List.length_cons, List.length_nil, Nat.reduceAdd, Nat.reduceSub, Array.replicate_succ, Array.replicate_zero, List.push_toArray, List.append_toArray, List.nil_append, List.cons_append]
  apply wpS_seq
  apply wpS_region
  simp [wpOpsS, go_sem, recoverD, hu, Exit.thenS]
  refine wpS_of_wp ?_
  obtain ⟨va, vn, vc, rfl⟩ := hv
  go_wp2_with fail
  go_region
  all_goals
    have HK := Hb.out.set (.slice none 0 0) k 80
    have h1 : Below B w ((((w.setCell ⟨B, 0, none⟩ (.slice none 0 0)).setCell ⟨B + 1, 0, none⟩ (.int .i64 k)).setCell ⟨B + 2, 0, none⟩ (.int .i64 80)).alloc (.cells #[.int .i64 k] 98)).drew := (HK.2.alloc (Nat.le_of_lt (Nat.lt_of_lt_of_le l0 HK.2.size)) _).drew
    have h2 : Bx ((((w.setCell ⟨B, 0, none⟩ (.slice none 0 0)).setCell ⟨B + 1, 0, none⟩ (.int .i64 k)).setCell ⟨B + 2, 0, none⟩ (.int .i64 80)).alloc (.cells #[.int .i64 k] 98)).drew B (.slice none 0 0) k 80 := HK.1.below (zB.alloc zL _).drew HK.1.err.lt
    have h3 := And.intro h1 h2
    clear h1 h2 HK
    generalize World.drew _ = wz at h3 ⊢
    clear q0 q1 q2 f0 f1 f2 lg l0 l1 Hb has
    obtain ⟨k1, k2, k3, k4, k5, k6, k7⟩ := c₀
    simp (config := { zetaDelta := true }) [bodyPostS, results, Tryd.results54]
    exact h3
theorem catch_idle (a b c : Value) (w : World) :
    CallsD Tryd.prog 54 #[a, b, c] .returning w fun e u' w' => e = .returned (.tuple #[]) ∧ u' = .returning ∧ w' = w := by
  refine callsD_of_wpS Tryd.func54 rfl fun c₀ cs hu => ?_
  simp only [Tryd.ntmps54, List.size_toArray, List.length_cons, List.length_nil, Nat.reduceAdd, Nat.reduceSub, Array.replicate_succ, Array.replicate_zero, List.push_toArray, List.append_toArray, List.nil_append, List.cons_append]
  apply wpS_seq
  apply wpS_region
  simp [wpOpsS, go_sem, recoverD, hu, Exit.thenS]
  refine wpS_of_wp ?_
  go_wp2_with fail
  cases c₀
  simp_all [bodyPostS, results, Tryd.results54]
end Go.Proofs.YtpkggobhhieeoaaDoor
namespace Go.Proofs.YtpkggobhhieeoaaDoor
open Go.RowKit
def thrownT (k f : Nat) : List PanicEntry := [{ v := .iface 39 (.agg #[.int .i64 (k : Int), .int .i64 (f : Int)]), recovered := false }]
structure RdS (q : Nat) (s : ByteArray) (v : Value) (i : Nat) (W : World) : Prop where
  box : Blk W q 43 #[.string s, .int .i64 (i : Int), v]
  low : 4 < q
  marks : Marks W
  signs : Signs W
  le : i ≤ s.size
  few : s.size ≤ 4096
theorem Marks.of_block {w w' : World} (h : Marks w) (hb : w'.heap[0]? = w.heap[0]?) : Marks w' := by
  unfold Marks World.var? at h ⊢
  rw [show Tryd.prog.globalNamed "topiary/lex.marks" = some 0 by kernel_rfl] at h ⊢
  simp only [Option.bind_some] at h ⊢
  rw [hb]
  exact h
section
variable {q : Nat} {s : ByteArray} {v : Value} {i : Nat} {W W' : World}
theorem RdS.mv {j : Nat} {v' : Value} (h : RdS q s v i W) (hm : Below q W W') (hb : Blk W' q 43 #[.string s, .int .i64 (j : Int), v']) (hj : j ≤ s.size) : RdS q s v' j W' :=
  ⟨hb, h.low, h.marks.of_block (hm.block 0 (by have := h.low; omega)), h.signs.of_block (hm.block 4 h.low), hj, h.few⟩
theorem RdS.keep (h : RdS q s v i W) (hb : Below W.heap.size W W') : RdS q s v i W' :=
  h.mv (hb.mono (Nat.le_of_lt h.box.lt)) (h.box.below hb h.box.lt) h.le
theorem RdS.set (h : RdS q s v i W) {j : Nat} {u : Value} (hu : u = .int .i64 (j : Int)) (hj : j ≤ s.size) : RdS q s v j (W.setCell ⟨q, 1, none⟩ u) := by
  subst hu
  exact h.mv (Mv.set _ _ _ _).low (h.box.set_ 1 _) hj
theorem RdS.quiet (h : RdS q s v i W) (hq : Quiet W W') : RdS q s v i W' := h.keep (hq.below _)
theorem RdS.step (h : RdS q s v i W) {j : Nat} {u : Value} (hu : u = .int .i64 (j : Int)) (hj : j ≤ s.size) (n : Nat) : Mv q W ((W.drewN n).setCell ⟨q, 1, none⟩ u) ∧ RdS q s v j ((W.drewN n).setCell ⟨q, 1, none⟩ u) :=
  ⟨(Mv.quiet ⟨n, rfl⟩).trans (Mv.set _ _ _ _), (h.quiet ⟨n, rfl⟩).set hu hj⟩
theorem RdS.facts (h : RdS q s v i W) : W.cell? ⟨q, 0, none⟩ = some (.string s) ∧ W.cell? ⟨q, 1, none⟩ = some (.int .i64 (i : Int)) ∧ W.cell? ⟨q, 2, none⟩ = some v ∧ W.frozen? ⟨q, 1, none⟩ = false ∧ W.frozen? ⟨q, 2, none⟩ = false ∧ q < W.heap.size :=
  ⟨h.box.cell rfl, h.box.cell rfl, h.box.cell rfl, h.box.frozen 1, h.box.frozen 2, h.box.lt⟩
end
theorem hasP0 (s p : ByteArray) (hs : s.size ≤ maxLen) (hp : p.size ≤ 4096) (b : Bool) (hb : decide ((bs s).take p.size = bs p) = b) (w : World) : Calls Tryd.prog 40 #[.string s, .string p] w fun e w' => e = .returned (.bool b) ∧ Quiet w w' := by
  obtain ⟨n, hn⟩ : ∃ n, s.size = n := ⟨_, rfl⟩
  obtain ⟨m, hm⟩ : ∃ m, p.size = m := ⟨_, rfl⟩
  have hn' : (s.size : Int) = (n : Int) := by rw [hn]
  have hm' : (p.size : Int) = (m : Int) := by rw [hm]
  have m0 : (0 : Int) ≤ (m : Int) := Int.natCast_nonneg _
  have hx : (decide ((s.extract 0 m).toList = p.toList)) = b := by
    rw [← hb, hm]
    congr 1
    rw [toList_inj, eq_iff_iff]
    constructor
    · intro h; rw [← h, bs_extract, List.drop_zero]
    · intro h; exact bs_inj (by rw [bs_extract, List.drop_zero, h])
  by_cases hlt : m ≤ n
  · have d1 : decide ((m : Int) ≤ (n : Int)) = true := by simpa using hlt
    have d2 : (m : Int) ≤ (n : Int) := by omega
    have e1 : ((s.extract 0 m).toList == p.toList) = b := by rw [← hx]; exact (by cases hd : decide ((s.extract 0 m).toList = p.toList) <;> simpa using hd)
    have HB := zH hx
    clear hb hx hn hm hlt
    go_enter Tryd.func40, Tryd.ntmps40
    go_wp2_with fail
    go_ret
    exact ⟨rfl, Quiet.refl _⟩
  · have d1 : decide ((m : Int) ≤ (n : Int)) = false := by simp; omega
    have d2 : ¬ m ≤ n := hlt
    have hf : b = false := by
      rw [← hb]
      simp only [decide_eq_false_iff_not]
      intro h
      have := congrArg List.length h
      rw [List.length_take, bs_len, bs_len] at this
      omega
    have HB := zH hf
    clear hb hx hn hm hlt hf
    go_enter Tryd.func40, Tryd.ntmps40
    go_wp2_with fail
    go_ret
    exact ⟨by rw [HB.out]; rfl, Quiet.refl _⟩
theorem hasP (s p : ByteArray) (hs : s.size ≤ maxLen) (hp : p.size ≤ 4096) (b : Bool) (hb : decide ((bs s).take p.size = bs p) = b) (w : World) : Calls Tryd.prog 27 #[.string s, .string p] w fun e w' => e = .returned (.bool b) ∧ Quiet w w' := by
  have H := zH (fun W => hasP0 s p hs hp b hb W)
  clear hb
  go_enter Tryd.func27, Tryd.ntmps27
  go_wp2_with (go_at_call 40; (with_reducible refine (H.out _).mono ?_); rintro e w1 ⟨rfl, nq, rfl⟩)
  go_ret
  exact ⟨rfl, nq, rfl⟩
def nextB (s : ByteArray) (i : Nat) (t : ByteArray) : Bool := decide (((bs s).drop i).take t.size = bs t)
theorem t_next {q : Nat} {s : ByteArray} {v : Value} {i : Nat} {W : World} (t : ByteArray) (ht : t.size ≤ 4096) (b : Bool) (hb : nextB s i t = b) (h : RdS q s v i W) :
    Calls Tryd.prog 15 #[.pointer (some ⟨q, 0, none⟩), .string t] W fun e w' => e = .returned (.bool b) ∧ Quiet W w' := by
  obtain ⟨f0, f1, f2, f3, f4, f5⟩ := h.facts
  obtain ⟨n, hn⟩ : ∃ n, s.size = n := ⟨_, rfl⟩
  have hle := h.le
  have hfew := h.few
  have HP : Hid (∀ W, Calls Tryd.prog 27 #[.string (s.extract i s.size), .string t] W fun e w' => e = .returned (.bool b) ∧ Quiet W w') := zH (fun W => by
    refine hasP (s.extract i s.size) t ?_ ht b ?_ W
    · rw [← bs_len, bs_extract, List.length_drop, List.length_take, bs_len]; unfold maxLen; omega
    · rw [← hb]; unfold nextB; rw [bs_extract, List.take_of_length_le (l := bs s) (by rw [bs_len]; exact Nat.le_refl _)])
  have hn' : (s.size : Int) = (n : Int) := by rw [hn]
  rw [hn] at hle hfew
  have i0 : (0 : Int) ≤ (i : Int) := Int.natCast_nonneg _
  have i1 : (i : Int) ≤ (n : Int) := by omega
  clear h hb hn
  go_enter Tryd.func15, Tryd.ntmps15
  go_wp2_with fail
  go_quiet ((go_at_call 27; exact quiet_call (HP.out _) rfl))
  go_wp2_with fail
  go_ret
  exact ⟨rfl, ⟨_, rfl⟩⟩
end Go.Proofs.YtpkggobhhieeoaaDoor
namespace Go.Proofs.YtpkggobhhieeoaaDoor
open Go.RowKit
section
variable {q : Nat} {a : Option Addr} {c sz : Nat} {l : List Tok} {i : Nat} {W : World}
def markR (l : List Tok) (f i : Nat) (s : List Nat) : PR :=
  if s = minusT then (match l[i + 1]? with
    | some x => if x.kind = 1 then .ok (.node 1 [] (-x.num) []) (i + 2) else .no (i + 1)
    | none => .no (i + 1))
  else if s = openT then (pL l f 1 (i + 1)).bind fun k j => want l j closeT (.ok k (j + 1))
  else .no i
theorem isT_at {t : Tok} (ht : l[i]? = some t) (s : List Nat) : isT l i s = (decide (4 ≤ t.kind) && decide (t.text = s)) := by unfold isT; rw [ht]
theorem p_mark {t : Tok} (ht : l[i]? = some t) (hk : t.kind = 5) (f : Nat) (HO : LevelC q a c sz l 55 (fun i => pL l f 1 i)) (h : PSt q a c sz l i W) (hr : markR l f i t.text ≠ .out) :
    Calls Tryd.prog 112 #[.pointer (some ⟨q, 0, none⟩)] W (Reads q a c sz l W (markR l f i t.text)) := by
  have H := zH h
  have QL := zH h.box.lt
  have hlt := (List.getElem?_eq_some_iff.1 ht).1
  have hfew := h.few
  have hb : isT l i minusT = decide (t.text = minusT) := by rw [isT_at ht, hk]; rfl
  have hb2 : isT l i openT = decide (t.text = openT) := by rw [isT_at ht, hk]; rfl
  have hnx : (txt minusT) = ⟨#[45]⟩ := by decide
  have hno : (txt openT) = ⟨#[40]⟩ := by decide
  have hnc : (txt closeT) = ⟨#[41]⟩ := by decide
  obtain ⟨tt, htt⟩ : ∃ k, t.text = k := ⟨_, rfl⟩
  rw [htt] at hr hb hb2 ⊢
  unfold markR at hr ⊢
  by_cases hm : tt = minusT
  · rw [if_pos hm] at hr ⊢
    rw [decide_eq_true hm] at hb
    have HX := zH (p_next minusT (show ∀ n ∈ minusT, n < 256 by decide) true hb h)
    rw [hnx] at HX
    have ST := zH (fun n => h.step (j := i + 1) (u := .int .i64 ((i : Int) + 1)) (by go_num) hlt n)
    obtain ⟨f0, f1, f2, f3, f4⟩ := h.facts
    have i5 : (i : Int) ≤ 5000 := by omega
    have i0 : (0 : Int) ≤ (i : Int) := Int.natCast_nonneg _
    have i00 : (0 : Int) ≤ (i : Int) + 1 := by omega
    obtain ⟨n, hn⟩ : ∃ n, l.length = n := ⟨_, rfl⟩
    have Hn := zH hn
    rw [hn] at f0 hlt hfew
    have n63 : n ≤ 9223372036854775807 := by omega
    by_cases hx : i + 1 < n
    · obtain ⟨x, hx1⟩ := get_some hn hx
      rw [hx1] at hr ⊢
      simp only at hr ⊢
      have HT := zH hx1
      have hg := h.good x (List.mem_iff_getElem?.2 ⟨_, hx1⟩)
      by_cases hk1 : x.kind = 1
      · rw [if_pos hk1] at hr ⊢
        have hnum : 0 ≤ x.num := by unfold TokG at hg; omega
        obtain ⟨xv, hxv⟩ : ∃ k, x.num = k := ⟨_, rfl⟩
        have HV := zH hxv
        rw [hxv] at hnum ⊢
        have dlt : ((i : Int) + 1 == (n : Int)) = false := by simp; omega
        have dlt2 : (i : Int) + 1 < (n : Int) := by omega
        have HK := zH hk1
        clear h ht hk hfew hb hb2 hnx hno hnc htt hm hn hx1 hg hr hk1 hxv
        go_enter Tryd.func112, Tryd.ntmps112
        go_wp2_with (first
          | (go_at_call 103; (with_reducible refine HX.out.mono ?_); rintro e w1 ⟨rfl, nq, rfl⟩))
        have hS1 := ST.out nq
        generalize hwq : World.setCell _ _ _ = W1
        rw [hwq] at hS1
        clear hwq f0 f1 f2 f3 f4
        have M1 := zH hS1.1
        have P1 := zH hS1.2
        obtain ⟨g0, g1, g2, g3, g4⟩ := hS1.2.facts
        rw [Hn.out] at g0
        have g1' : W1.cell? ⟨q, 1, none⟩ = some (.int .i64 ((i : Int) + 1)) := g1
        clear g1 hS1
        obtain ⟨b1, o1, e1, t0, t1, t2, _, hok⟩ := P1.out.tok HT.out
        subst e1
        rw [HK.out] at t0
        rw [HV.out] at t2
        have hxr := hok.2.2.2.1
        rw [HV.out] at hxr
        clear hok t1
        go_quiet (fail)
        go_wp2_with fail
        generalize hwq2 : World.setCell _ _ _ = W2
        have hS2 : Mv q W1 W2 ∧ PSt q (some ⟨b1, o1, none⟩) c sz l (i + 2) W2 := by rw [← hwq2]; exact P1.out.step (j := i + 2) (by go_num) (by rw [Hn.out]; omega) _
        clear hwq2 g0 g2 g3 g4 g1' t0 t2
        have M2 := zH hS2.1
        have P2 := zH hS2.2
        obtain ⟨v0, v1, v2, v3, v4⟩ := hS2.2.facts
        rw [Hn.out] at v0
        have v1' : W2.cell? ⟨q, 1, none⟩ = some (.int .i64 ((i : Int) + 2)) := v1
        obtain ⟨b2, o2, e2, _, _, t2, _, _⟩ := hS2.2.tok HT.out
        injection e2 with e2
        injection e2 with e2 e3
        subst e2 e3
        rw [HV.out] at t2
        have ws : IntKind.i64.wrap ((i : Int) + 2 - 1) = (i : Int) + 1 := by rw [IntKind.wrap_i64]; omega
        have hx63 : xv ≤ 9223372036854775807 := by
          have h2 := hxr
          unfold Lit.wf at h2
          rw [Bool.and_eq_true] at h2
          have h3 := of_decide_eq_true h2.2
          have h4 : IntKind.max .i64 = 9223372036854775807 := by decide
          omega
        have wn : IntKind.i64.wrap (-xv) = -xv := by rw [IntKind.wrap_i64]; omega
        clear v1 v2 v3 v4 hS2 hxr
        go_still_tail 15, (by kernel_rfl)
        change wpList _ _ _ _ _ W2.drew
        go_wp2_with fail
        go_ret
        have hbN := ((Below.refl W2.heap.size W2).alloc zL (.cells #[.int .i64 1, .string ⟨#[]⟩, .int .i64 (-xv), .slice none 0 0, .slice none 0 0] 126)).drew
        exact Reads.mk_ (node0 (k := 1) (s := []) (Nat.le_trans M1.out.low.size M2.out.low.size) (Blk.new W2 126 #[.int .i64 1, .string ⟨#[]⟩, .int .i64 (-xv), .slice none 0 0, .slice none 0 0])) ((M1.out.trans M2.out).trans (Mv.of_below hbN (Nat.le_of_lt P2.out.box.lt))) (P2.out.keep hbN)
      · rw [if_neg hk1] at hr ⊢
        have dlt : ((i : Int) + 1 == (n : Int)) = false := by simp; omega
        have dlt2 : (i : Int) + 1 < (n : Int) := by omega
        obtain ⟨kd, hkd⟩ : ∃ k, x.kind = k := ⟨_, rfl⟩
        have HK := zH hkd
        rw [hkd] at hk1
        have d1 : (kd != 1) = true := by simpa using hk1
        clear h ht hk hfew hb hb2 hnx hno hnc htt hm hn hx1 hg hr hk1 hkd
        go_enter Tryd.func112, Tryd.ntmps112
        go_wp2_with (first
          | (go_at_call 103; (with_reducible refine HX.out.mono ?_); rintro e w1 ⟨rfl, nq, rfl⟩))
        have hS1 := ST.out nq
        generalize hwq : World.setCell _ _ _ = W1
        rw [hwq] at hS1
        clear hwq f0 f1 f2 f3 f4
        have M1 := zH hS1.1
        have P1 := zH hS1.2
        obtain ⟨g0, g1, g2, g3, g4⟩ := hS1.2.facts
        rw [Hn.out] at g0
        have g1' : W1.cell? ⟨q, 1, none⟩ = some (.int .i64 ((i : Int) + 1)) := g1
        clear g1 hS1
        obtain ⟨b1, o1, e1, t0, t1, t2, _, hok⟩ := P1.out.tok HT.out
        subst e1
        rw [HK.out] at t0
        clear hok t1 t2
        go_quiet (fail)
        go_wp2_with (first
          | (go_at_call 56; (refine (p_give (P1.out.quiet ⟨_, rfl⟩)).mono ?_); rintro e w2 ⟨rfl, q2⟩; have Q2 := zH q2; clear q2))
        exact ⟨rfl, rfl, M1.out.trans ((Mv.quiet ⟨_, rfl⟩).trans (Mv.quiet Q2.out))⟩
    · have hnone : l[i + 1]? = none := List.getElem?_eq_none (by omega)
      rw [hnone] at hr ⊢
      simp only at hr ⊢
      obtain rfl : n = i + 1 := by omega
      have dlt : ((i : Int) + 1 == ((i + 1 : Nat) : Int)) = true := by simp
      clear h ht hk hfew hb hb2 hnx hno hnc htt hm hn hr hnone hx
      go_enter Tryd.func112, Tryd.ntmps112
      go_wp2_with (first
        | (go_at_call 103; (with_reducible refine HX.out.mono ?_); rintro e w1 ⟨rfl, nq, rfl⟩))
      have hS1 := ST.out nq
      generalize hwq : World.setCell _ _ _ = W1
      rw [hwq] at hS1
      clear hwq f0 f1 f2 f3 f4
      have M1 := zH hS1.1
      have P1 := zH hS1.2
      obtain ⟨g0, g1, g2, g3, g4⟩ := hS1.2.facts
      rw [Hn.out] at g0
      have g1' : W1.cell? ⟨q, 1, none⟩ = some (.int .i64 ((i : Int) + 1)) := g1
      clear g1 hS1
      go_quiet (fail)
      go_wp2_with (first
        | (go_at_call 56; (refine (p_give (P1.out.quiet ⟨_, rfl⟩)).mono ?_); rintro e w2 ⟨rfl, q2⟩; have Q2 := zH q2; clear q2))
      exact ⟨rfl, rfl, M1.out.trans ((Mv.quiet ⟨_, rfl⟩).trans (Mv.quiet Q2.out))⟩
  · rw [if_neg hm] at hr ⊢
    rw [decide_eq_false hm] at hb
    have HX := zH (p_next minusT (show ∀ n ∈ minusT, n < 256 by decide) false hb h)
    rw [hnx] at HX
    by_cases ho : tt = openT
    · rw [if_pos ho] at hr ⊢
      rw [decide_eq_true ho] at hb2
      have HA : Hid (∀ X, Quiet W X → Calls Tryd.prog 114 #[.pointer (some ⟨q, 0, none⟩), .string ⟨#[40]⟩] X fun e w' => e = .returned (.tuple #[]) ∧ Mv q X w' ∧ PSt q a c sz l (i + 1) w') := zH (fun X hX => by rw [← hno]; exact p_want_yes openT (show ∀ n ∈ openT, n < 256 by decide) hb2 (h.quiet hX))
      obtain ⟨r, hrr⟩ : ∃ r, pL l f 1 (i + 1) = r := ⟨_, rfl⟩
      have hne : r ≠ .out := fun e => hr (by rw [hrr, e]; rfl)
      have HC1 : Hid (∀ X, PSt q a c sz l (i + 1) X → Calls Tryd.prog 55 #[.pointer (some ⟨q, 0, none⟩)] X (Reads q a c sz l X r)) := zH (fun X hX => by rw [← hrr]; exact HO (i + 1) X hX (by show pL l f 1 (i + 1) ≠ .out; rw [hrr]; exact hne))
      rw [hrr]
      have tokA : True := trivial
      cases r with
      | out => exact absurd rfl hne
      | no j =>
        clear HO h ht hk hfew hb hb2 hnx hno hnc htt hm ho hr hlt hrr hne
        go_enter Tryd.func112, Tryd.ntmps112
        go_wp2_with (first
          | (go_at_call 103; (with_reducible refine HX.out.mono ?_); rintro e w1 ⟨rfl, nq, rfl⟩; have Q1 : Hid (Quiet W (W.drewN nq)) := zH ⟨nq, rfl⟩)
          | (go_at_call 114; have _t := tokA; refine (HA.out _ Q1.out).mono ?_; rintro e w2 ⟨rfl, h2, h3⟩; have M2 := zH h2; have P2 := zH h3; clear h2 h3 tokA _t)
          | (go_at_call 55; refine (HC1.out _ P2.out).mono ?_; rintro e w3 ⟨rfl, h2⟩; have M3 := zH h2; clear h2))
        exact ⟨rfl, rfl, (Mv.quiet Q1.out).trans (M2.out.trans M3.out)⟩
      | ok k j =>
        show Calls _ _ _ _ (Reads q a c sz l W (want l j closeT (.ok k (j + 1))))
        unfold want
        obtain ⟨b, hb3⟩ : ∃ b, isT l j closeT = b := ⟨_, rfl⟩
        cases b with
        | true =>
          rw [hb3, if_pos rfl]
          have HB : Hid (∀ X, PSt q a c sz l j X → Calls Tryd.prog 114 #[.pointer (some ⟨q, 0, none⟩), .string ⟨#[41]⟩] X fun e w' => e = .returned (.tuple #[]) ∧ Mv q X w' ∧ PSt q a c sz l (j + 1) w') := zH (fun X hX => by rw [← hnc]; exact p_want_yes closeT (show ∀ n ∈ closeT, n < 256 by decide) hb3 hX)
          clear HO h ht hk hfew hb hb2 hnx hno hnc htt hm ho hr hlt hrr hne hb3
          go_enter Tryd.func112, Tryd.ntmps112
          go_wp2_with (first
            | (go_at_call 103; (with_reducible refine HX.out.mono ?_); rintro e w1 ⟨rfl, nq, rfl⟩; have Q1 : Hid (Quiet W (W.drewN nq)) := zH ⟨nq, rfl⟩)
            | (go_at_call 114; have _t := tokA; refine (HA.out _ Q1.out).mono ?_; rintro e w2 ⟨rfl, h2, h3⟩; have M2 := zH h2; have P2 := zH h3; clear h2 h3 tokA _t)
            | (go_at_call 55; refine (HC1.out _ P2.out).mono ?_; rintro e w3 h2; obtain ⟨g, rfl, h3, h4, h5⟩ := h2.get; have T3 := zH h3; have M3 := zH h4; have P3 := zH h5; clear h2 h3 h4 h5)
            | (go_at_call 114; refine (HB.out _ P3.out).mono ?_; rintro e w4 ⟨rfl, h2, h3⟩; have M4 := zH h2; have P4 := zH h3; clear h2 h3))
          go_ret
          have q2 : q < w2.heap.size := P2.out.box.lt
          exact Reads.back ((Mv.quiet Q1.out).trans M2.out) (Reads.mk_ (T3.out.high (High.of_mv M4.out q2)) (M3.out.trans M4.out) P4.out)
        | false =>
          rw [hb3, if_neg (by simp)]
          have HB : Hid (∀ X, PSt q a c sz l j X → Calls Tryd.prog 114 #[.pointer (some ⟨q, 0, none⟩), .string ⟨#[41]⟩] X fun e w' => e = .panicked (thrownE (placeAt l sz j)) ∧ Quiet X w') := zH (fun X hX => by rw [← hnc]; exact p_want_no closeT (show ∀ n ∈ closeT, n < 256 by decide) hb3 hX)
          clear HO h ht hk hfew hb hb2 hnx hno hnc htt hm ho hr hlt hrr hne hb3
          go_enter Tryd.func112, Tryd.ntmps112
          go_wp2_with (first
            | (go_at_call 103; (with_reducible refine HX.out.mono ?_); rintro e w1 ⟨rfl, nq, rfl⟩; have Q1 : Hid (Quiet W (W.drewN nq)) := zH ⟨nq, rfl⟩)
            | (go_at_call 114; have _t := tokA; refine (HA.out _ Q1.out).mono ?_; rintro e w2 ⟨rfl, h2, h3⟩; have M2 := zH h2; have P2 := zH h3; clear h2 h3 tokA _t)
            | (go_at_call 55; refine (HC1.out _ P2.out).mono ?_; rintro e w3 h2; obtain ⟨g, rfl, h3, h4, h5⟩ := h2.get; have T3 := zH h3; have M3 := zH h4; have P3 := zH h5; clear h2 h3 h4 h5)
            | (go_at_call 114; refine (HB.out _ P3.out).mono ?_; rintro e w4 ⟨rfl, h2⟩; have M4 := zH h2; clear h2))
          exact ⟨rfl, rfl, (Mv.quiet Q1.out).trans (M2.out.trans (M3.out.trans (Mv.quiet M4.out)))⟩
    · rw [if_neg ho] at hr ⊢
      rw [decide_eq_false ho] at hb2
      have HA : Hid (∀ X, Quiet W X → Calls Tryd.prog 114 #[.pointer (some ⟨q, 0, none⟩), .string ⟨#[40]⟩] X fun e w' => e = .panicked (thrownE (placeAt l sz i)) ∧ Quiet X w') := zH (fun X hX => by rw [← hno]; exact p_want_no openT (show ∀ n ∈ openT, n < 256 by decide) hb2 (h.quiet hX))
      clear HO h ht hk hfew hb hb2 hnx hno hnc htt hm ho hr hlt
      go_enter Tryd.func112, Tryd.ntmps112
      go_wp2_with (first
        | (go_at_call 103; (with_reducible refine HX.out.mono ?_); rintro e w1 ⟨rfl, nq, rfl⟩; have Q1 : Hid (Quiet W (W.drewN nq)) := zH ⟨nq, rfl⟩)
        | (go_at_call 114; refine (HA.out _ Q1.out).mono ?_; rintro e w2 ⟨rfl, h2⟩; have M2 := zH h2; clear h2))
      exact ⟨rfl, rfl, (Mv.quiet Q1.out).trans (Mv.quiet M2.out)⟩
end
end Go.Proofs.YtpkggobhhieeoaaDoor
namespace Go.Proofs.YtpkggobhhieeoaaDoor
open Go.RowKit
theorem p_one_and (W : World) : Calls Tryd.prog 115 #[.string ⟨#[97, 110, 100]⟩] W fun e w' => e = .returned (.tuple #[.int .i64 0, .int .i64 0]) ∧ w' = W := by
  go_enter Tryd.func115, Tryd.ntmps115
  go_wp2_with fail
  go_ret2
  exact ⟨rfl, rfl⟩
theorem p_one_any (W : World) : Calls Tryd.prog 115 #[.string ⟨#[97, 110, 121]⟩] W fun e w' => e = .returned (.tuple #[.int .i64 31, .int .i64 2]) ∧ w' = W := by
  go_enter Tryd.func115, Tryd.ntmps115
  go_wp2_with fail
  go_ret2
  exact ⟨rfl, rfl⟩
theorem p_one_concept (W : World) : Calls Tryd.prog 115 #[.string ⟨#[99, 111, 110, 99, 101, 112, 116]⟩] W fun e w' => e = .returned (.tuple #[.int .i64 17, .int .i64 1]) ∧ w' = W := by
  go_enter Tryd.func115, Tryd.ntmps115
  go_wp2_with fail
  go_ret2
  exact ⟨rfl, rfl⟩
theorem p_one_else (W : World) : Calls Tryd.prog 115 #[.string ⟨#[101, 108, 115, 101]⟩] W fun e w' => e = .returned (.tuple #[.int .i64 0, .int .i64 0]) ∧ w' = W := by
  go_enter Tryd.func115, Tryd.ntmps115
  go_wp2_with fail
  go_ret2
  exact ⟨rfl, rfl⟩
theorem p_one_end (W : World) : Calls Tryd.prog 115 #[.string ⟨#[101, 110, 100]⟩] W fun e w' => e = .returned (.tuple #[.int .i64 0, .int .i64 0]) ∧ w' = W := by
  go_enter Tryd.func115, Tryd.ntmps115
  go_wp2_with fail
  go_ret2
  exact ⟨rfl, rfl⟩
theorem p_one_every (W : World) : Calls Tryd.prog 115 #[.string ⟨#[101, 118, 101, 114, 121]⟩] W fun e w' => e = .returned (.tuple #[.int .i64 32, .int .i64 2]) ∧ w' = W := by
  go_enter Tryd.func115, Tryd.ntmps115
  go_wp2_with fail
  go_ret2
  exact ⟨rfl, rfl⟩
theorem p_one_false (W : World) : Calls Tryd.prog 115 #[.string ⟨#[102, 97, 108, 115, 101]⟩] W fun e w' => e = .returned (.tuple #[.int .i64 4, .int .i64 0]) ∧ w' = W := by
  go_enter Tryd.func115, Tryd.ntmps115
  go_wp2_with fail
  go_ret2
  exact ⟨rfl, rfl⟩
theorem p_one_first (W : World) : Calls Tryd.prog 115 #[.string ⟨#[102, 105, 114, 115, 116]⟩] W fun e w' => e = .returned (.tuple #[.int .i64 15, .int .i64 1]) ∧ w' = W := by
  go_enter Tryd.func115, Tryd.ntmps115
  go_wp2_with fail
  go_ret2
  exact ⟨rfl, rfl⟩
theorem p_one_id (W : World) : Calls Tryd.prog 115 #[.string ⟨#[105, 100]⟩] W fun e w' => e = .returned (.tuple #[.int .i64 18, .int .i64 1]) ∧ w' = W := by
  go_enter Tryd.func115, Tryd.ntmps115
  go_wp2_with fail
  go_ret2
  exact ⟨rfl, rfl⟩
theorem p_one_if (W : World) : Calls Tryd.prog 115 #[.string ⟨#[105, 102]⟩] W fun e w' => e = .returned (.tuple #[.int .i64 30, .int .i64 3]) ∧ w' = W := by
  go_enter Tryd.func115, Tryd.ntmps115
  go_wp2_with fail
  go_ret2
  exact ⟨rfl, rfl⟩
theorem p_one_in (W : World) : Calls Tryd.prog 115 #[.string ⟨#[105, 110]⟩] W fun e w' => e = .returned (.tuple #[.int .i64 0, .int .i64 0]) ∧ w' = W := by
  go_enter Tryd.func115, Tryd.ntmps115
  go_wp2_with fail
  go_ret2
  exact ⟨rfl, rfl⟩
theorem p_one_int (W : World) : Calls Tryd.prog 115 #[.string ⟨#[105, 110, 116]⟩] W fun e w' => e = .returned (.tuple #[.int .i64 19, .int .i64 1]) ∧ w' = W := by
  go_enter Tryd.func115, Tryd.ntmps115
  go_wp2_with fail
  go_ret2
  exact ⟨rfl, rfl⟩
theorem p_one_none (W : World) : Calls Tryd.prog 115 #[.string ⟨#[110, 111, 110, 101]⟩] W fun e w' => e = .returned (.tuple #[.int .i64 6, .int .i64 0]) ∧ w' = W := by
  go_enter Tryd.func115, Tryd.ntmps115
  go_wp2_with fail
  go_ret2
  exact ⟨rfl, rfl⟩
theorem p_one_not (W : World) : Calls Tryd.prog 115 #[.string ⟨#[110, 111, 116]⟩] W fun e w' => e = .returned (.tuple #[.int .i64 0, .int .i64 0]) ∧ w' = W := by
  go_enter Tryd.func115, Tryd.ntmps115
  go_wp2_with fail
  go_ret2
  exact ⟨rfl, rfl⟩
theorem p_one_only (W : World) : Calls Tryd.prog 115 #[.string ⟨#[111, 110, 108, 121]⟩] W fun e w' => e = .returned (.tuple #[.int .i64 33, .int .i64 2]) ∧ w' = W := by
  go_enter Tryd.func115, Tryd.ntmps115
  go_wp2_with fail
  go_ret2
  exact ⟨rfl, rfl⟩
theorem p_one_or (W : World) : Calls Tryd.prog 115 #[.string ⟨#[111, 114]⟩] W fun e w' => e = .returned (.tuple #[.int .i64 0, .int .i64 0]) ∧ w' = W := by
  go_enter Tryd.func115, Tryd.ntmps115
  go_wp2_with fail
  go_ret2
  exact ⟨rfl, rfl⟩
theorem p_one_self (W : World) : Calls Tryd.prog 115 #[.string ⟨#[115, 101, 108, 102]⟩] W fun e w' => e = .returned (.tuple #[.int .i64 5, .int .i64 0]) ∧ w' = W := by
  go_enter Tryd.func115, Tryd.ntmps115
  go_wp2_with fail
  go_ret2
  exact ⟨rfl, rfl⟩
theorem p_one_size (W : World) : Calls Tryd.prog 115 #[.string ⟨#[115, 105, 122, 101]⟩] W fun e w' => e = .returned (.tuple #[.int .i64 14, .int .i64 1]) ∧ w' = W := by
  go_enter Tryd.func115, Tryd.ntmps115
  go_wp2_with fail
  go_ret2
  exact ⟨rfl, rfl⟩
theorem p_one_sum (W : World) : Calls Tryd.prog 115 #[.string ⟨#[115, 117, 109]⟩] W fun e w' => e = .returned (.tuple #[.int .i64 34, .int .i64 2]) ∧ w' = W := by
  go_enter Tryd.func115, Tryd.ntmps115
  go_wp2_with fail
  go_ret2
  exact ⟨rfl, rfl⟩
theorem p_one_text (W : World) : Calls Tryd.prog 115 #[.string ⟨#[116, 101, 120, 116]⟩] W fun e w' => e = .returned (.tuple #[.int .i64 16, .int .i64 1]) ∧ w' = W := by
  go_enter Tryd.func115, Tryd.ntmps115
  go_wp2_with fail
  go_ret2
  exact ⟨rfl, rfl⟩
theorem p_one_then (W : World) : Calls Tryd.prog 115 #[.string ⟨#[116, 104, 101, 110]⟩] W fun e w' => e = .returned (.tuple #[.int .i64 0, .int .i64 0]) ∧ w' = W := by
  go_enter Tryd.func115, Tryd.ntmps115
  go_wp2_with fail
  go_ret2
  exact ⟨rfl, rfl⟩
theorem p_one_true (W : World) : Calls Tryd.prog 115 #[.string ⟨#[116, 114, 117, 101]⟩] W fun e w' => e = .returned (.tuple #[.int .i64 3, .int .i64 0]) ∧ w' = W := by
  go_enter Tryd.func115, Tryd.ntmps115
  go_wp2_with fail
  go_ret2
  exact ⟨rfl, rfl⟩
theorem p_one {s : List Nat} (hs : s ∈ wordsL) (W : World) : Calls Tryd.prog 115 #[.string (txt s)] W fun e w' => e = .returned (.tuple #[.int .i64 ((oneN s).1 : Int), .int .i64 ((oneN s).2 : Int)]) ∧ w' = W := by
  simp only [wordsL, List.mem_cons, List.not_mem_nil, or_false] at hs
  rcases hs with rfl | rfl | rfl | rfl | rfl | rfl | rfl | rfl | rfl | rfl | rfl | rfl | rfl | rfl | rfl | rfl | rfl | rfl | rfl | rfl | rfl | rfl
  · exact p_one_and W
  · exact p_one_any W
  · exact p_one_concept W
  · exact p_one_else W
  · exact p_one_end W
  · exact p_one_every W
  · exact p_one_false W
  · exact p_one_first W
  · exact p_one_id W
  · exact p_one_if W
  · exact p_one_in W
  · exact p_one_int W
  · exact p_one_none W
  · exact p_one_not W
  · exact p_one_only W
  · exact p_one_or W
  · exact p_one_self W
  · exact p_one_size W
  · exact p_one_sum W
  · exact p_one_text W
  · exact p_one_then W
  · exact p_one_true W
end Go.Proofs.YtpkggobhhieeoaaDoor
