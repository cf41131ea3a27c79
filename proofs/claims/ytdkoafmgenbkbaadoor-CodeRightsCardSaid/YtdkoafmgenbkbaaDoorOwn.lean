/- Rows that the call itself makes, as lists: what 'append' leaves, over whatever program. -/
import Derived.Test.YtdkoafmgenbkbaaDoorApi
import Derived.Maps.AppendAt
import Derived.Deep.AppendLies
import Derived.OwnWalk
namespace Go.Proofs.YtdkoafmgenbkbaaDoor
set_option linter.unusedSimpArgs false
set_option linter.unusedVariables false
open Go.RowKit

/-- cells in a row that read as a list -/
def FlatR {α : Type} (size : Nat) (R : List Value → α → Prop) (xs : List Value) (l : List α) : Prop :=
  xs.length = l.length * size ∧ ∀ (i : Nat) (y : α), l[i]? = some y → R ((xs.drop (i * size)).take size) y

theorem FlatR.nil_ {α : Type} {size : Nat} {R : List Value → α → Prop} : FlatR size R [] ([] : List α) := ⟨by simp, fun i y h => by simp at h⟩
theorem FlatR.app {α : Type} {size : Nat} {R : List Value → α → Prop} {xs ys : List Value} {l m : List α} (h : FlatR size R xs l) (k : FlatR size R ys m) : FlatR size R (xs ++ ys) (l ++ m) := by
  refine ⟨by rw [List.length_append, h.1, k.1, List.length_append, Nat.add_mul], fun i y hy => ?_⟩
  rcases Nat.lt_or_ge i l.length with hi | hi
  · rw [List.getElem?_append_left hi] at hy
    have hle : i * size + size ≤ xs.length := by
      rw [h.1]
      calc i * size + size = (i + 1) * size := by rw [Nat.succ_mul]
        _ ≤ l.length * size := Nat.mul_le_mul_right _ hi
    rw [List.drop_append_of_le_length (by omega), List.take_append_of_le_length (by rw [List.length_drop]; omega)]
    exact h.2 i y hy
  · rw [List.getElem?_append_right hi] at hy
    have e : (xs ++ ys).drop (i * size) = ys.drop ((i - l.length) * size) := by
      have : i * size = xs.length + (i - l.length) * size := by rw [h.1, ← Nat.add_mul]; congr 1; omega
      rw [this, List.drop_append, List.drop_of_length_le (by omega), Nat.add_sub_cancel_left, List.nil_append]
    rw [e]
    exact k.2 _ y hy
theorem FlatR.one {α : Type} {size : Nat} {R : List Value → α → Prop} {xs : List Value} {y : α} (hl : xs.length = size) (h : R xs y) : FlatR size R xs [y] := by
  refine ⟨by simp [hl], fun i z hz => ?_⟩
  rcases i with _ | i
  · simp at hz
    subst hz
    rw [Nat.zero_mul, List.drop_zero, List.take_of_length_le (by omega)]
    exact h
  · simp at hz
theorem FlatR.imp {α : Type} {size : Nat} {R R' : List Value → α → Prop} {xs : List Value} {l : List α} (h : FlatR size R xs l) (hR : ∀ x y, R x y → R' x y) : FlatR size R' xs l := ⟨h.1, fun i y hy => hR _ _ (h.2 i y hy)⟩

/-- a row of the call's own that reads as a list -/
def Own1 {α : Type} (w : World) (base : Nat) (e : TypeId) (size : Nat) (R : List Value → α → Prop) (v : Value) (l : List α) : Prop :=
  ∃ xs, w.ownsRow base e size v l.length xs ∧ FlatR size R xs l

section
variable {α : Type} {w w' : World} {base size : Nat} {e : TypeId} {R R' : List Value → α → Prop} {v : Value} {l : List α}
theorem Own1.alloc (h : Own1 w base e size R v l) (o : Obj) : Own1 (w.alloc o) base e size R v l := by
  obtain ⟨xs, h1, h2⟩ := h
  exact ⟨xs, h1.alloc o, h2⟩
theorem Own1.drew (h : Own1 w base e size R v l) : Own1 w.drew base e size R v l := h
theorem Own1.drewN (h : Own1 w base e size R v l) (n : Nat) : Own1 (w.drewN n) base e size R v l := h
theorem Own1.imp (h : Own1 w base e size R v l) (hR : ∀ x y, R x y → R' x y) : Own1 w base e size R' v l := by
  obtain ⟨xs, h1, h2⟩ := h
  exact ⟨xs, h1, h2.imp hR⟩
theorem Own1.mono {base' : Nat} (h : Own1 w base e size R v l) (hb : base' ≤ base) : Own1 w base' e size R v l := by
  obtain ⟨xs, ⟨h0, h1⟩, h2⟩ := h
  refine ⟨xs, ⟨h0, ?_⟩, h2⟩
  rcases h1 with h1 | ⟨g, cap, cur, r1, r2, r3⟩
  · exact .inl h1
  · exact .inr ⟨g, cap, cur, r1, by omega, r3⟩
/-- behind the growth of a row of another element type -/
theorem Own1.kept {base' size' n' : Nat} {e' : TypeId} {v' : Value} {xs' : List Value} (h : Own1 w base e size R v l) (h' : w.ownsRow base' e' size' v' n' xs') (hne : e ≠ e') (hg : w.grownBy w' v'.ownBlock) : Own1 w' base e size R v l := by
  obtain ⟨xs, h1, h2⟩ := h
  refine ⟨xs, h1.kept hg ?_, h2⟩
  rcases h1.2 with ⟨rfl, _⟩ | ⟨g, cap, cur, rfl, _, hh, _⟩
  · exact .inl rfl
  · refine .inr ?_
    rcases h'.2 with ⟨rfl, _⟩ | ⟨g', cap', cur', rfl, _, hh', _⟩
    · simp [Value.ownBlock]
    · intro he
      simp [Value.ownBlock] at he
      subst he
      rw [hh] at hh'
      injection hh' with hh'
      injection hh' with _ ht
      exact hne ht
/-- below block B, and with B at most the row's own base, it stays -/
theorem Own1.below {B : Nat} (h : Own1 w base e size R v l) (hb : Below B w w') (hB : w.heap.size ≤ B) : Own1 w' base e size R v l := by
  obtain ⟨xs, h1, h2⟩ := h
  refine ⟨xs, ⟨h1.1, ?_⟩, h2⟩
  rcases h1.2 with r | ⟨g, cap, cur, r1, r2, r3, r4⟩
  · exact .inl r
  · have hg : g < w.heap.size := by
      rcases Nat.lt_or_ge g w.heap.size with hlt | hge
      · exact hlt
      · rw [Array.getElem?_eq_none hge] at r3; cases r3
    exact .inr ⟨g, cap, cur, r1, r2, (hb.block g (by omega)).trans r3, r4⟩
theorem Own1.read (h : Own1 w base e size R v l) (hs : 0 < size) : SlR w w.heap.size size R v l := by
  obtain ⟨xs, h1, h2⟩ := h
  rcases h1.2 with ⟨rfl, h0⟩ | ⟨g, cap, cur, rfl, hg, hh, hn, hc, hsz, hxs⟩
  · have : l = [] := List.eq_nil_of_length_eq_zero h0
    subst this
    exact SlR.nil_ _ (by unfold maxLen; omega) _
  · refine ⟨_, cap, rfl, hn, hc, fun hl => ⟨g, 0, rfl, ?_, fun i y hy => ⟨_, ?_, h2.2 i y hy, fun j u hu => ?_⟩⟩⟩
    · rcases Nat.lt_or_ge g w.heap.size with hlt | hge
      · exact hlt
      · rw [Array.getElem?_eq_none hge] at hh; cases hh
    · have hi : i < l.length := (List.getElem?_eq_some_iff.1 hy).1
      have : i * size + size ≤ xs.length := by
        rw [h1.1]
        calc i * size + size = (i + 1) * size := by rw [Nat.succ_mul]
          _ ≤ l.length * size := Nat.mul_le_mul_right _ hi
      rw [List.length_take, List.length_drop]
      omega
    · have hj : j < size := by
        have := (List.getElem?_eq_some_iff.1 hu).1
        rw [List.length_take] at this
        omega
      have hx : xs[i * size + j]? = some u := by
        rw [List.getElem?_take_of_lt hj, List.getElem?_drop] at hu
        exact hu
      have := h1.cells (g := g) rfl _ _ hx
      have e' : ((⟨g, 0, none⟩ : Addr).add (i * size + j)) = ⟨g, 0 + i * size + j, none⟩ := by
        unfold Addr.add
        split
        · rename_i h0
          rw [Nat.zero_add, h0]
        · rw [Nat.zero_add, Nat.zero_add]
      rwa [e'] at this
/-- a slice that is read, as cells in a row -/
theorem SlR.flat {B : Nat} {a : Option Addr} {n c : Nat} (h : SlR w B size R (.slice a n c) l) : ∃ news, FlatR size R news l ∧ (a = none → n = 0) ∧ (∀ ad, a = some ad → 0 < n → ∀ j u, news[j]? = some u → w.cell? (ad.add j) = some u) := by
  obtain ⟨a', c', hv, h1, h2, h3⟩ := h
  injection hv with e1 e2 e3
  subst e1 e2 e3
  rcases Nat.eq_zero_or_pos l.length with h0 | h0
  · have : l = [] := List.eq_nil_of_length_eq_zero h0
    subst this
    exact ⟨[], FlatR.nil_, fun _ => rfl, fun ad _ hn => absurd hn (by simp)⟩
  · obtain ⟨b, off, rfl, hb, hc⟩ := h3 h0
    have key : ∀ m, m ≤ l.length → ∃ news, FlatR size R news (l.take m) ∧ ∀ j u, news[j]? = some u → w.cell? ⟨b, off + j, none⟩ = some u := by
      intro m
      induction m with
      | zero => exact fun _ => ⟨[], by simpa using FlatR.nil_, fun j u hu => by simp at hu⟩
      | succ m ih =>
        intro hm
        obtain ⟨news, hf, hcell⟩ := ih (by omega)
        have hy : l[m]? = some l[m] := List.getElem?_eq_getElem (by omega)
        obtain ⟨x, hx1, hx2, hx3⟩ := hc m _ hy
        refine ⟨news ++ x, ?_, fun j u hu => ?_⟩
        · rw [List.take_succ_eq_append_getElem (by omega)]
          exact hf.app (FlatR.one hx1 hx2)
        · have hln : news.length = m * size := by rw [hf.1, List.length_take, Nat.min_eq_left (by omega)]
          rcases Nat.lt_or_ge j news.length with hj | hj
          · rw [List.getElem?_append_left hj] at hu
            exact hcell j u hu
          · rw [List.getElem?_append_right hj] at hu
            have := hx3 _ u hu
            have e : off + m * size + (j - news.length) = off + j := by omega
            rwa [e] at this
    obtain ⟨news, hf, hcell⟩ := key l.length (Nat.le_refl _)
    rw [List.take_length] at hf
    refine ⟨news, hf, (fun h => by cases h), fun ad had hn j u hu => ?_⟩
    injection had with had
    subst had
    have := hcell j u hu
    have e : ((⟨b, off, none⟩ : Addr).add j) = ⟨b, off + j, none⟩ := by
      unfold Addr.add
      split
      · rename_i h0
        rw [h0, Nat.add_zero]
      · rfl
    rw [e]
    exact this
end

/-- the empty row that a literal without elements makes -/
theorem Own1.empty {α : Type} {w : World} {base size g : Nat} {e : TypeId} {R : List Value → α → Prop} (hg : g = w.heap.size) (hb : base ≤ w.heap.size) : Own1 (w.alloc (.cells #[] e)) base e size R (.slice (some ⟨g, 0, none⟩) 0 0) ([] : List α) := by
  subst hg
  refine ⟨[], ⟨by simp, .inr ⟨w.heap.size, 0, #[], rfl, hb, heap_alloc_new w _, by simp, by simp [maxLen], by simp, by simp⟩⟩, FlatR.nil_⟩
/-- a store into a block ahead of the row's base -/
theorem Own1.setFar {α : Type} {w : World} {base size : Nat} {e : TypeId} {R : List Value → α → Prop} {v : Value} {l : List α} (h : Own1 w base e size R v l) {p : Addr} (hp : p.block < base) (u : Value) : Own1 (w.setCell p u) base e size R v l := by
  obtain ⟨xs, h1, h2⟩ := h
  exact ⟨xs, ownsRow_setCell_below h1 hp u, h2⟩
theorem Own1.form {α : Type} {w : World} {base size : Nat} {e : TypeId} {R : List Value → α → Prop} {v : Value} {l : List α} (h : Own1 w base e size R v l) : ∃ a c, v = .slice a l.length c := by
  obtain ⟨xs, h1, _⟩ := h
  rcases h1.2 with ⟨rfl, h0⟩ | ⟨g, cap, cur, rfl, _⟩
  · exact ⟨_, _, by rw [h0]⟩
  · exact ⟨_, _, rfl⟩
theorem Own1.block {α : Type} {w : World} {base size : Nat} {e : TypeId} {R : List Value → α → Prop} {v : Value} {l : List α} (h : Own1 w base e size R v l) : ∀ k, v.ownBlock = some k → base ≤ k ∧ k < w.heap.size := by
  obtain ⟨xs, h1, _⟩ := h
  exact h1.lt
theorem Own1.kept1 {α β : Type} {w w' : World} {base size base' size' : Nat} {e e' : TypeId} {R : List Value → α → Prop} {R' : List Value → β → Prop} {v v' : Value} {l : List α} {l' : List β} (h : Own1 w base e size R v l) (h' : Own1 w base' e' size' R' v' l') (hne : e ≠ e') (hg : w.grownBy w' v'.ownBlock) : Own1 w' base e size R v l := by
  obtain ⟨xs, h1, _⟩ := h'
  exact h.kept h1 hne hg
/-- one element more in new memory: the row of a literal with one element -/
theorem SlR.new1 {α : Type} {w : World} {size : Nat} {e : TypeId} {R : List Value → α → Prop} {x : List Value} {y : α} {g : Nat} (hg : g = w.heap.size) (hl : x.length = size) (hR : R x y) : SlR (w.alloc (.cells x.toArray e)) (w.heap.size + 1) size R (.slice (some ⟨g, 0, none⟩) 1 1) [y] := by
  subst hg
  refine ⟨some ⟨w.heap.size, 0, none⟩, 1, rfl, Nat.le_refl _, by unfold maxLen; omega, fun _ => ⟨w.heap.size, 0, rfl, by omega, fun i z hz => ?_⟩⟩
  rcases i with _ | i
  · simp at hz
    subst hz
    refine ⟨x, hl, hR, fun j u hu => ?_⟩
    have : (w.alloc (.cells x.toArray e)).heap[w.heap.size]? = some (.cells x.toArray e (0, 0)) := heap_alloc_new w _
    rw [World.cell?]
    show (match (w.alloc (.cells x.toArray e)).heap[w.heap.size]? with | some (.cells c _ _) => _ | _ => none) = _
    rw [this]
    simpa using hu
  · simp at hz

section
variable {P : Program} {α : Type}
theorem run_append_list (w : World) (base B : Nat) (t ty e : TypeId) (i : TypeInfo) (z : Value) (size bytes : Nat) (ht : P.underlying t = some (.slice e)) (hi : P.info? e = some i) (hz : i.zero = some z)
    (hsize : i.size = size) (hby : i.bytes = bytes) (hzs : z.cells.size = size) (hsz : 0 < size) {R : List Value → α → Prop} {l m : List α}
    (v : Value) (hown : Own1 w base e size R v l) (A : Option Addr) (n c : Nat) (hsrc : SlR w B size R (.slice A n c) m)
    (h1 : ∀ x y, R x y → ∀ u ∈ x, u.oneCell' = true) (h63 : l.length + n ≤ maxLen) (hbytes : (l.length + n) * bytes ≤ 140737488355328) (hbase : base ≤ w.heap.size) :
    ∃ v' w', (Builtin.append_ #[t, t] ty #[v, .slice A n c]).run P w = .ok v' w' ∧ Own1 w' base e size R v' (l ++ m) ∧ w.grownBy w' v.ownBlock ∧ (v'.ownBlock = v.ownBlock ∨ v'.ownBlock = some w.heap.size) := by
  obtain ⟨news, hf, hnone, hcell⟩ := hsrc.flat
  have hn : n = m.length := hsrc.len
  obtain ⟨xs, hx, hxf⟩ := hown
  have hone : ∀ u ∈ news, u.oneCell' = true := by
    intro u hu
    obtain ⟨k, hk⟩ := List.mem_iff_getElem?.1 hu
    have hkl : k < news.length := (List.getElem?_eq_some_iff.1 hk).1
    have hkm : k / size < m.length := by rw [hf.1] at hkl; exact Nat.div_lt_of_lt_mul (by rwa [Nat.mul_comm])
    refine h1 _ _ (hf.2 (k / size) _ (List.getElem?_eq_getElem hkm)) u ?_
    refine List.mem_iff_getElem?.2 ⟨k % size, ?_⟩
    rw [List.getElem?_take_of_lt (Nat.mod_lt _ hsz), List.getElem?_drop, Nat.mul_comm, Nat.div_add_mod, hk]
  rcases A with _ | ad
  · have h0 := hnone rfl
    have hm : m = [] := List.eq_nil_of_length_eq_zero (by omega)
    subst hm
    subst h0
    refine ⟨v, w, ?_, ⟨xs, by simpa using hx, by simpa using hxf⟩, World.grownBy.refl w _, .inl rfl⟩
    rcases hx.2 with ⟨rfl, h0'⟩ | ⟨g, cap, cur, rfl, _, _, hnc, _⟩
    · simp [Builtin.append_, run_underlying ht, sizeOf, typeInfo, hi, Builtin.lenOf, Builtin.firstCells]
    · simp [Builtin.append_, run_underlying ht, sizeOf, typeInfo, hi, Builtin.lenOf, Builtin.firstCells, hnc, storeCells]
  · have hcells : ∀ j u, news[j]? = some u → w.cell? (ad.add j) = some u := by
      intro j u hu
      rcases Nat.eq_zero_or_pos n with h0 | h0
      · have hl0 : news.length = 0 := by rw [hf.1, ← hn, h0, Nat.zero_mul]
        have : news = [] := List.eq_nil_of_length_eq_zero hl0
        subst this
        simp at hu
      · exact hcell ad rfl h0 j u hu
    obtain ⟨v', w', hrun, h2, h3, _, h5⟩ := run_append_own_at (P := P) w base t ty e i z size bytes ht hi hz hsize hby hzs hsz v l.length xs hx ad n c news (by rw [hf.1, hn]) hcells hone h63 hbytes hbase
    exact ⟨v', w', hrun, ⟨xs ++ news, by rw [List.length_append, ← hn]; exact h2, hxf.app hf⟩, h3, h5⟩

theorem wpList_append_list {ops : Array Oper} {rest : List Oper} {o : Oper} {a : Act} {Q : Exit → Act → World → Prop} {w : World} (hgd : o.guard = none) (s x : Operand) (t : TypeId)
    (ho : o.op = .call { callee := .builtin .append, args := #[s, x], argTypes := #[t, t] })
    (base B : Nat) (e : TypeId) (i : TypeInfo) (z : Value) (size bytes : Nat) (ht : P.underlying t = some (.slice e)) (hi : P.info? e = some i) (hz : i.zero = some z)
    (hsize : i.size = size) (hby : i.bytes = bytes) (hzs : z.cells.size = size) (hsz : 0 < size) {R : List Value → α → Prop} {l m : List α}
    (v : Value) (hs : a.eval s = v) (hown : Own1 w base e size R v l) (A : Option Addr) (n c : Nat) (hx : a.eval x = .slice A n c) (hsrc : SlR w B size R (.slice A n c) m)
    (N : Nat) (hN : N = l.length + n) (h1 : ∀ x y, R x y → ∀ u ∈ x, u.oneCell' = true) (h63 : l.length + n ≤ maxLen) (hbytes : (l.length + n) * bytes ≤ 140737488355328) (hbase : base ≤ w.heap.size)
    (h : ∀ (a' : Option Addr) (c' : Nat) w', Own1 w' base e size R (.slice a' N c') (l ++ m) → w.grownBy w' v.ownBlock → wpList P ops Q rest (a.put o.dst (.slice a' N c')) w') : wpList P ops Q (o :: rest) a w := by
  refine wpList_plain hgd fun K hK => ?_
  obtain ⟨v', w', hrun, h2, h3, _⟩ := run_append_list (P := P) w base B t o.type e i z size bytes ht hi hz hsize hby hzs hsz v hown A n c hsrc h1 h63 hbytes hbase
  unfold Oper.wp execOp
  simp only [ho, resolve, invoke, builtin, Sem.run_bind, Sem.run_pure, Result.andThen_ok, List.map_toArray, List.map_cons, List.map_nil, hs, hx, hrun]
  obtain ⟨a', c', rfl⟩ := h2.form
  have e : (l ++ m).length = N := by rw [hN, List.length_append, hsrc.len]
  rw [e] at h2 ⊢
  exact hK _ _ (h a' c' w' h2 h3)
theorem step_append_list {ops : Array Oper} {o : Oper} {a : Act} {K : Act → World → Prop} {Q : Exit → Act → World → Prop} {E : Prop} {w : World} (hgd : o.guard = none) (s x : Operand) (t : TypeId)
    (ho : o.op = .call { callee := .builtin .append, args := #[s, x], argTypes := #[t, t] })
    (base B : Nat) (e : TypeId) (i : TypeInfo) (z : Value) (size bytes : Nat) (ht : P.underlying t = some (.slice e)) (hi : P.info? e = some i) (hz : i.zero = some z)
    (hsize : i.size = size) (hby : i.bytes = bytes) (hzs : z.cells.size = size) (hsz : 0 < size) {R : List Value → α → Prop} {l m : List α}
    (v : Value) (hs : a.eval s = v) (hown : Own1 w base e size R v l) (A : Option Addr) (n c : Nat) (hx : a.eval x = .slice A n c) (hsrc : SlR w B size R (.slice A n c) m)
    (N : Nat) (hN : N = l.length + n) (h1 : ∀ x y, R x y → ∀ u ∈ x, u.oneCell' = true) (h63 : l.length + n ≤ maxLen) (hbytes : (l.length + n) * bytes ≤ 140737488355328) (hbase : base ≤ w.heap.size)
    (h : ∀ (a' : Option Addr) (c' : Nat) w', Own1 w' base e size R (.slice a' N c') (l ++ m) → w.grownBy w' v.ownBlock → K (a.put o.dst (.slice a' N c')) w') : if Region.wanted o (yielded ops a.tmps) = true then Oper.wp P o a w K Q else E := by
  rw [if_pos (by simp [Region.wanted, hgd])]
  obtain ⟨v', w', hrun, h2, h3, _⟩ := run_append_list (P := P) w base B t o.type e i z size bytes ht hi hz hsize hby hzs hsz v hown A n c hsrc h1 h63 hbytes hbase
  unfold Oper.wp execOp
  simp only [ho, resolve, invoke, builtin, Sem.run_bind, Sem.run_pure, Result.andThen_ok, List.map_toArray, List.map_cons, List.map_nil, hs, hx, hrun]
  obtain ⟨a', c', rfl⟩ := h2.form
  have e : (l ++ m).length = N := by rw [hN, List.length_append, hsrc.len]
  rw [e] at h2 ⊢
  exact h a' c' w' h2 h3
end

/-- from w to w' every row from 'base' on stays, whatever it holds, but for rows of the element types of 'bad' -/
def Stays (w w' : World) (base : Nat) (bad : TypeId → Bool) : Prop :=
  ∀ (α : Type) (size : Nat) (e : TypeId) (R : List Value → α → Prop) (v : Value) (l : List α), bad e = false → Own1 w base e size R v l → Own1 w' base e size R v l
theorem Stays.refl (w : World) (base : Nat) (bad : TypeId → Bool) : Stays w w base bad := fun _ _ _ _ _ _ _ h => h
theorem Stays.trans {a b c : World} {base : Nat} {bad : TypeId → Bool} (h : Stays a b base bad) (k : Stays b c base bad) : Stays a c base bad := fun α size e R v l hb ho => k α size e R v l hb (h α size e R v l hb ho)
theorem Stays.worse {a b : World} {base : Nat} {bad bad' : TypeId → Bool} (h : Stays a b base bad) (hb : ∀ e, bad' e = false → bad e = false) : Stays a b base bad' := fun α size e R v l hbe ho => h α size e R v l (hb e hbe) ho
theorem Stays.of_below {a b : World} {base B : Nat} (h : Below B a b) (hB : a.heap.size ≤ B) : Stays a b base (fun _ => false) := fun _ _ _ _ _ _ _ ho => ho.below h hB
theorem Stays.of_set {w : World} {base : Nat} {p : Addr} (hp : p.block < base) (u : Value) : Stays w (w.setCell p u) base (fun _ => false) := fun _ _ _ _ _ _ _ ho => ho.setFar hp u
theorem Stays.of_alloc (w : World) (base : Nat) (o : Obj) : Stays w (w.alloc o) base (fun _ => false) := fun _ _ _ _ _ _ _ ho => ho.alloc o
theorem Stays.of_drew (w : World) (base : Nat) : Stays w w.drew base (fun _ => false) := fun _ _ _ _ _ _ _ ho => ho
theorem Stays.of_grown {α : Type} {a b : World} {base base' size' : Nat} {e' : TypeId} {R' : List Value → α → Prop} {v' : Value} {l' : List α} (h' : Own1 a base' e' size' R' v' l') (hg : a.grownBy b v'.ownBlock) : Stays a b base (fun e => e == e') :=
  fun _ _ e _ _ _ hb ho => ho.kept1 h' (by simpa using hb) hg
/-- a block that is known whole -/
def Blk (w : World) (g : Nat) (t : TypeId) (cs : Array Value) : Prop := w.heap[g]? = some (.cells cs t (0, 0))
theorem Blk.lt {w : World} {g : Nat} {t : TypeId} {cs : Array Value} (h : Blk w g t cs) : g < w.heap.size := by
  rcases Nat.lt_or_ge g w.heap.size with hlt | hge
  · exact hlt
  · unfold Blk at h; rw [Array.getElem?_eq_none hge] at h; cases h
theorem Blk.cell {w : World} {g : Nat} {t : TypeId} {cs : Array Value} (h : Blk w g t cs) {i : Nat} {u : Value} (hi : cs[i]? = some u) : w.cell? ⟨g, i, none⟩ = some u := by
  unfold Blk at h
  simp [World.cell?, h, hi]
theorem Blk.frozen {w : World} {g : Nat} {t : TypeId} {cs : Array Value} (h : Blk w g t cs) (i : Nat) : w.frozen? ⟨g, i, none⟩ = false := by
  unfold Blk at h
  simp [World.frozen?, h]
theorem Blk.keep {w w' : World} {g : Nat} {t : TypeId} {cs : Array Value} (h : Blk w g t cs) (hk : w'.heap[g]? = w.heap[g]?) : Blk w' g t cs := hk.trans h
theorem Blk.below {w w' : World} {g B : Nat} {t : TypeId} {cs : Array Value} (h : Blk w g t cs) (hb : Below B w w') (hg : g < B) : Blk w' g t cs := (hb.block g hg).trans h
theorem Blk.grown {w w' : World} {g : Nat} {t : TypeId} {cs : Array Value} {row : Option Nat} (h : Blk w g t cs) (hb : w.grownBy w' row) (hg : some g ≠ row) : Blk w' g t cs := (hb.block g h.lt hg).trans h
theorem Blk.alloc {w : World} {g : Nat} {t : TypeId} {cs : Array Value} (h : Blk w g t cs) (o : Obj) : Blk (w.alloc o) g t cs := (Below.heap_alloc w o g h.lt).trans h
theorem Blk.new (w : World) (t : TypeId) (cs : Array Value) : Blk (w.alloc (.cells cs t)) w.heap.size t cs := heap_alloc_new w _
theorem Blk.new_ {w : World} {g : Nat} (hg : g = w.heap.size) (t : TypeId) (cs : Array Value) : Blk (w.alloc (.cells cs t)) g t cs := by subst hg; exact heap_alloc_new w _
theorem Blk.set_ {w : World} {g : Nat} {t : TypeId} {cs : Array Value} (h : Blk w g t cs) (i : Nat) (u : Value) : Blk (w.setCell ⟨g, i, none⟩ u) g t (cs.setIfInBounds i u) := by
  unfold Blk at h ⊢
  simp [World.setCell, Array.getElem?_modify, h]
theorem Blk.far {w : World} {g : Nat} {t : TypeId} {cs : Array Value} (h : Blk w g t cs) {p : Addr} (hp : g ≠ p.block) (u : Value) : Blk (w.setCell p u) g t cs := (Below.heap_setCell w p u g hp).trans h
end Go.Proofs.YtdkoafmgenbkbaaDoor
