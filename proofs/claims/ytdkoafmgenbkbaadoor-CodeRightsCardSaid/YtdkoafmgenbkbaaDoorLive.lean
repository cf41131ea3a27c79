/- Several rows of one element type, each in a block of its own: what an alloc and an append onto one of them leave of the others. -/
import Derived.Test.YtdkoafmgenbkbaaDoorOwn
import Derived.Orders
namespace Go.Proofs.YtdkoafmgenbkbaaDoor
set_option linter.unusedSimpArgs false
set_option linter.unusedVariables false
open Go.RowKit

/-- behind a growth of another block a row stays -/
theorem Own1.apart {α : Type} {w w' : World} {base size : Nat} {e : TypeId} {R : List Value → α → Prop} {v : Value} {l : List α} {b : Option Nat} (h : Own1 w base e size R v l) (hg : w.grownBy w' b) (hne : ∀ g, v.ownBlock = some g → some g ≠ b) : Own1 w' base e size R v l := by
  obtain ⟨xs, ⟨h1, h2⟩, h3⟩ := h
  refine ⟨xs, ⟨h1, ?_⟩, h3⟩
  rcases h2 with h2 | ⟨g, cap, cur, r1, r2, r3, r4⟩
  · exact .inl h2
  · refine .inr ⟨g, cap, cur, r1, r2, ?_, r4⟩
    have hlt : g < w.heap.size := by
      rcases Nat.lt_or_ge g w.heap.size with hlt | hge
      · exact hlt
      · rw [Array.getElem?_eq_none hge] at r3; cases r3
    rw [hg.block g hlt (hne g (by rw [r1]; rfl))]
    exact r3
/-- rows by number: those that live lie in blocks that differ -/
structure LiveRows {α : Type} (w : World) (base : Nat) (e : TypeId) (size : Nat) (R : List Value → α → Prop) (v : Nat → Value) (c : Nat → List α) (lv : Nat → Bool) : Prop where
  own : ∀ k, lv k = true → Own1 w base e size R (v k) (c k)
  blk : ∀ k, lv k = true → ∃ g, (v k).ownBlock = some g
  far : ∀ k k', lv k = true → lv k' = true → k ≠ k' → (v k).ownBlock ≠ (v k').ownBlock
section
variable {α : Type} {w w' : World} {base size : Nat} {e : TypeId} {R : List Value → α → Prop} {v v' : Nat → Value} {c : Nat → List α} {lv lv' : Nat → Bool}
/-- a row more, made new -/
theorem LiveRows.new (h : LiveRows w base e size R v c lv) (k0 : Nat) (o : Obj) (hown : Own1 (w.alloc o) base e size R (v' k0) (c k0)) (hb : (v' k0).ownBlock = some w.heap.size)
    (hlv : ∀ k, lv' k = true → k = k0 ∨ lv k = true) (hv : ∀ k, k ≠ k0 → v' k = v k) : LiveRows (w.alloc o) base e size R v' c lv' := by
  have old : ∀ k, lv' k = true → k ≠ k0 → lv k = true := fun k hk hne => (hlv k hk).resolve_left hne
  have lt : ∀ k g, lv k = true → (v k).ownBlock = some g → g < w.heap.size := fun k g hk hg => ((h.own k hk).block g hg).2
  refine ⟨fun k hk => ?_, fun k hk => ?_, fun k k' hk hk' hne => ?_⟩
  · by_cases e : k = k0
    · subst e; exact hown
    · rw [hv k e]; exact (h.own k (old k hk e)).alloc o
  · by_cases e : k = k0
    · subst e; exact ⟨_, hb⟩
    · rw [hv k e]; exact h.blk k (old k hk e)
  · by_cases e : k = k0
    · subst e
      have e' : k' ≠ k := fun e' => hne e'.symm
      rw [hb, hv k' e']
      intro he
      have := lt k' _ (old k' hk' e') he.symm
      omega
    · by_cases e' : k' = k0
      · subst e'
        rw [hb, hv k e]
        intro he
        have := lt k _ (old k hk e) he
        omega
      · rw [hv k e, hv k' e']
        exact h.far k k' (old k hk e) (old k' hk' e') hne
/-- a row grown (number kt, which lives no longer) into number k0 -/
theorem LiveRows.app (h : LiveRows w base e size R v c lv) (kt k0 : Nat) (hkt : lv kt = true) (hown : Own1 w' base e size R (v' k0) (c k0)) (hg : w.grownBy w' (v kt).ownBlock)
    (hb : (v' k0).ownBlock = (v kt).ownBlock ∨ (v' k0).ownBlock = some w.heap.size)
    (hlv : ∀ k, lv' k = true → k = k0 ∨ (lv k = true ∧ k ≠ kt)) (hv : ∀ k, k ≠ k0 → v' k = v k) : LiveRows w' base e size R v' c lv' := by
  have old : ∀ k, lv' k = true → k ≠ k0 → lv k = true ∧ k ≠ kt := fun k hk hne => (hlv k hk).resolve_left hne
  have lt : ∀ k g, lv k = true → (v k).ownBlock = some g → g < w.heap.size := fun k g hk hg => ((h.own k hk).block g hg).2
  have key : ∀ k, lv' k = true → k ≠ k0 → (v' k0).ownBlock ≠ (v k).ownBlock := fun k hk hne he => by
    obtain ⟨h1, h2⟩ := old k hk hne
    rcases hb with hb | hb
    · rw [hb] at he
      exact h.far kt k hkt h1 (fun e => h2 e.symm) he
    · rw [hb] at he
      have := lt k _ h1 he.symm
      omega
  refine ⟨fun k hk => ?_, fun k hk => ?_, fun k k' hk hk' hne => ?_⟩
  · by_cases e : k = k0
    · subst e; exact hown
    · rw [hv k e]
      obtain ⟨h1, h2⟩ := old k hk e
      exact (h.own k h1).apart hg (fun g hgk he => h.far k kt h1 hkt h2 (by rw [hgk, he]))
  · by_cases e : k = k0
    · subst e
      obtain ⟨g, hg'⟩ := h.blk kt hkt
      rcases hb with hb | hb
      · exact ⟨g, by rw [hb, hg']⟩
      · exact ⟨_, hb⟩
    · rw [hv k e]; exact h.blk k (old k hk e).1
  · by_cases e : k = k0
    · subst e
      have e' : k' ≠ k := fun e' => hne e'.symm
      rw [hv k' e']
      exact key k' hk' e'
    · by_cases e' : k' = k0
      · subst e'
        rw [hv k e]
        exact (key k hk e).symm
      · rw [hv k e, hv k' e']
        exact h.far k k' (old k hk e).1 (old k' hk' e').1 hne
/-- nothing but another world in which these rows stay -/
theorem LiveRows.less (h : LiveRows w base e size R v c lv) (hlv : ∀ k, lv' k = true → lv k = true) (hv : ∀ k, lv' k = true → v' k = v k) : LiveRows w base e size R v' c lv' :=
  ⟨fun k hk => by rw [hv k hk]; exact h.own k (hlv k hk), fun k hk => by rw [hv k hk]; exact h.blk k (hlv k hk), fun k k' hk hk' hne => by rw [hv k hk, hv k' hk']; exact h.far k k' (hlv k hk) (hlv k' hk') hne⟩
end
section
variable {P : Program} {α : Type}
/-- an append that comes up in a region that draws -/
theorem wpOp_append_list {ops : Array Oper} {k : Nat} {o : Oper} {a : Act} {K : Act → World → Prop} {Q : Exit → Act → World → Prop} {w : World} (hk : ops[k]? = some o) (hgd : o.guard = none) (s x : Operand) (t : TypeId)
    (ho : o.op = .call { callee := .builtin .append, args := #[s, x], argTypes := #[t, t] })
    (base B : Nat) (e : TypeId) (i : TypeInfo) (z : Value) (size bytes : Nat) (ht : P.underlying t = some (.slice e)) (hi : P.info? e = some i) (hz : i.zero = some z)
    (hsize : i.size = size) (hby : i.bytes = bytes) (hzs : z.cells.size = size) (hsz : 0 < size) {R : List Value → α → Prop} {l m : List α}
    (v : Value) (hs : a.eval s = v) (hown : Own1 w base e size R v l) (A : Option Addr) (n c : Nat) (hx : a.eval x = .slice A n c) (hsrc : SlR w B size R (.slice A n c) m)
    (N : Nat) (hN : N = l.length + n) (h1 : ∀ x y, R x y → ∀ u ∈ x, u.oneCell' = true) (h63 : l.length + n ≤ maxLen) (hbytes : (l.length + n) * bytes ≤ 140737488355328) (hbase : base ≤ w.heap.size)
    (h : ∀ (a' : Option Addr) (c' : Nat) w', Own1 w' base e size R (.slice a' N c') (l ++ m) → w.grownBy w' v.ownBlock → ((Value.slice a' N c').ownBlock = v.ownBlock ∨ (Value.slice a' N c').ownBlock = some w.heap.size) → K (a.put o.dst (.slice a' N c')) w') : wpOp P ops Q k K a w := by
  obtain ⟨v', w', hrun, h2, h3, h4⟩ := run_append_list (P := P) w base B t o.type e i z size bytes ht hi hz hsize hby hzs hsz v hown A n c hsrc h1 h63 hbytes hbase
  unfold wpOp
  simp only [hk]
  rw [if_pos (by simp [Region.wanted, hgd])]
  left
  unfold Oper.wp execOp
  simp only [ho, resolve, invoke, builtin, Sem.run_bind, Sem.run_pure, Result.andThen_ok, List.map_toArray, List.map_cons, List.map_nil, hs, hx, hrun]
  obtain ⟨a', c', rfl⟩ := h2.form
  have e : (l ++ m).length = N := by rw [hN, List.length_append, hsrc.len]
  rw [e] at h2 h4 ⊢
  exact h a' c' w' h2 h3 h4
end
/-- an operation without a guard -/
theorem wpOp_plain {P : Program} {ops : Array Oper} {k : Nat} {o : Oper} {a : Act} {K : Act → World → Prop} {Q : Exit → Act → World → Prop} {w : World} (hk : ops[k]? = some o) (hgd : o.guard = none) (h : o.wp P a w K Q) : wpOp P ops Q k K a w := by
  unfold wpOp
  simp only [hk]
  rw [if_pos (by simp [Region.wanted, hgd])]
  exact .inl h
end Go.Proofs.YtdkoafmgenbkbaaDoor
