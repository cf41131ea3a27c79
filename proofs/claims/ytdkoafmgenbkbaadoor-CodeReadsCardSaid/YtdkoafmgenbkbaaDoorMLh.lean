/- A region that draws its order, gone through by an invariant: one step for each operation, whatever came up ahead of it. Several rows of one element type, each in a block of its own: what an alloc and an append onto one of them leave of the others. Chapter 11: the invariant of the region in which a loop's places are laid (group h of the reference's stands), in plain words. -/
import Derived.Orders
import Derived.Test.YtdkoafmgenbkbaaDoorMNum
import Derived.Test.YtdkoafmgenbkbaaDoorRCa
namespace Go.Proofs.YtdkoafmgenbkbaaDoor
set_option linter.unusedSimpArgs false
set_option linter.unusedVariables false
open Go

theorem countP_lt {l : List Nat} {p q : Nat → Bool} (h : ∀ x ∈ l, q x = true → p x = true) {i : Nat} (hi : i ∈ l) (hp : p i = true) (hq : q i = false) : l.countP q < l.countP p := by
  induction l with
  | nil => cases hi
  | cons y t ih =>
    rw [List.countP_cons, List.countP_cons]
    rcases List.mem_cons.1 hi with rfl | hi
    · have := List.countP_mono_left (fun x hx => h x (List.mem_cons_of_mem _ hx))
      simp [hp, hq]
      omega
    · have h1 := ih (fun x hx => h x (List.mem_cons_of_mem _ hx)) hi
      by_cases hy : q y = true
      · have h2 := h y (by simp) hy
        simp [hy, h2]
        exact h1
      · simp only [hy]
        by_cases h3 : p y = true
        · simp [h3]; omega
        · simp [h3]; exact h1
/-- how many operations have not come up yet -/
def unlisted (n : Nat) (listed : Array Bool) : Nat := (List.range n).countP (fun j => !listed.getD j true)
theorem unlisted_set {n i : Nat} {listed : Array Bool} (hi : i < n) (h : listed.getD i true = false) : unlisted n (listed.setIfInBounds i true) < unlisted n listed := by
  have hlt : i < listed.size := by
    rcases Nat.lt_or_ge i listed.size with h1 | h1
    · exact h1
    · simp [Array.getD, Nat.not_lt.2 h1] at h
  refine countP_lt (i := i) (fun x _ hx => ?_) (List.mem_range.2 hi) (by simp [h]) ?_
  · by_cases e : x = i
    · subst e; simp [h]
    · simp only [Array.getD_eq_getD_getElem?] at hx ⊢
      rwa [Array.getElem?_setIfInBounds_ne (fun e' => e e'.symm)] at hx
  · simp [Array.getD, hlt]
section
variable {P : Program} {ops : Array Oper} {Q : Exit → Act → World → Prop} {md : Region.Mode}
theorem wpAny_inv (Inv : Array Bool → Act → World → Prop)
    (hstep : ∀ listed a w i, Inv listed a w → i ∈ Region.ready md ops listed → wpOp P ops Q i (Inv (listed.setIfInBounds i true)) a w)
    (hdone : ∀ listed a w, Inv listed a w → Region.ready md ops listed = [] → Q .normal a w) :
    ∀ fuel listed a w, Inv listed a w → unlisted ops.size listed ≤ fuel → wpAny P md ops Q fuel listed a w := by
  intro fuel
  induction fuel with
  | zero =>
    intro listed a w hI hf
    have hr : Region.ready md ops listed = [] := by
      rw [List.eq_nil_iff_forall_not_mem]
      intro i hi
      obtain ⟨hu, o, ho, _⟩ := mem_ready.1 hi
      have hlt : i < ops.size := (Array.getElem?_eq_some_iff.1 ho).1
      have := unlisted_set hlt hu
      omega
    exact ⟨hr, hdone _ _ _ hI hr⟩
  | succ fuel ih =>
    intro listed a w hI hf
    refine ⟨hdone _ _ _ hI, fun i hi => ?_⟩
    obtain ⟨hu, o, ho, _⟩ := mem_ready.1 hi
    have hlt : i < ops.size := (Array.getElem?_eq_some_iff.1 ho).1
    have := unlisted_set hlt hu
    exact wpOp_mono (fun a' w' h' => ih _ _ _ h' (by omega)) (hstep _ _ _ _ hI hi)
/-- the region by an invariant -/
theorem wp_region_inv {id : Nat} {a : Act} {w : World} (hm : P.follows .mixedOrders = true) (Inv : Array Bool → Act → World → Prop)
    (h0 : Inv (Array.replicate ops.size false) a { w with drawn := w.drawn + 1 })
    (hstep : ∀ listed a w i, Inv listed a w → i ∈ Region.ready .any ops listed → wpOp P ops Q i (Inv (listed.setIfInBounds i true)) a w)
    (hdone : ∀ listed a w, Inv listed a w → Region.ready .any ops listed = [] → Q .normal a w) : (Code.region id ops true).wp P Q a w := by
  refine wp_region_any hm (wpAny_inv Inv hstep hdone _ _ _ _ h0 ?_)
  unfold unlisted
  exact Nat.le_trans List.countP_le_length (by simp)
end
end Go.Proofs.YtdkoafmgenbkbaaDoor
namespace Go.Proofs.YtdkoafmgenbkbaaDoor
set_option linter.unusedSimpArgs false
set_option linter.unusedVariables false
open Go.RowKit

/-- behind a growth of another block a row stays -/
theorem Own1.apart {α : Type} {w w' : World} {base size : Nat} {e : TypeId} {R : List Value → α → Prop} {v : Value} {l : List α} {b : Option Nat} (h : Own1 w base e size R v l) (hg : w.grownBy w' b) (hne : ∀ g, v.ownBlock = some g → some g ≠ b) : Own1 w' base e size R v l := by
  obtain ⟨xs, ⟨h1, h2⟩, h3⟩ := h
  refine ⟨xs, ⟨h1, ?_⟩, h3⟩
  rcases h2 with h2 | ⟨g, cap, cur, r1, r2, r3, r4⟩
  · exact .inl h2
  · refine .inr ⟨g, cap, cur, r1, r2, ?_, r4⟩
    have hlt : g < w.heap.size := by
      rcases Nat.lt_or_ge g w.heap.size with hlt | hge
      · exact hlt
      · rw [Array.getElem?_eq_none hge] at r3; cases r3
    rw [hg.block g hlt (hne g (by rw [r1]; rfl))]
    exact r3
/-- rows by number: those that live lie in blocks that differ -/
structure LiveRows {α : Type} (w : World) (base : Nat) (e : TypeId) (size : Nat) (R : List Value → α → Prop) (v : Nat → Value) (c : Nat → List α) (lv : Nat → Bool) : Prop where
  own : ∀ k, lv k = true → Own1 w base e size R (v k) (c k)
  blk : ∀ k, lv k = true → ∃ g, (v k).ownBlock = some g
  far : ∀ k k', lv k = true → lv k' = true → k ≠ k' → (v k).ownBlock ≠ (v k').ownBlock
section
variable {α : Type} {w w' : World} {base size : Nat} {e : TypeId} {R : List Value → α → Prop} {v v' : Nat → Value} {c : Nat → List α} {lv lv' : Nat → Bool}
/-- a row more, made new -/
theorem LiveRows.new (h : LiveRows w base e size R v c lv) (k0 : Nat) (o : Obj) (hown : Own1 (w.alloc o) base e size R (v' k0) (c k0)) (hb : (v' k0).ownBlock = some w.heap.size)
    (hlv : ∀ k, lv' k = true → k = k0 ∨ lv k = true) (hv : ∀ k, k ≠ k0 → v' k = v k) : LiveRows (w.alloc o) base e size R v' c lv' := by
  have old : ∀ k, lv' k = true → k ≠ k0 → lv k = true := fun k hk hne => (hlv k hk).resolve_left hne
  have lt : ∀ k g, lv k = true → (v k).ownBlock = some g → g < w.heap.size := fun k g hk hg => ((h.own k hk).block g hg).2
  refine ⟨fun k hk => ?_, fun k hk => ?_, fun k k' hk hk' hne => ?_⟩
  · by_cases e : k = k0
    · subst e; exact hown
    · rw [hv k e]; exact (h.own k (old k hk e)).alloc o
  · by_cases e : k = k0
    · subst e; exact ⟨_, hb⟩
    · rw [hv k e]; exact h.blk k (old k hk e)
  · by_cases e : k = k0
    · subst e
      have e' : k' ≠ k := fun e' => hne e'.symm
      rw [hb, hv k' e']
      intro he
      have := lt k' _ (old k' hk' e') he.symm
      omega
    · by_cases e' : k' = k0
      · subst e'
        rw [hb, hv k e]
        intro he
        have := lt k _ (old k hk e) he
        omega
      · rw [hv k e, hv k' e']
        exact h.far k k' (old k hk e) (old k' hk' e') hne
/-- a row grown (number kt, which lives no longer) into number k0 -/
theorem LiveRows.app (h : LiveRows w base e size R v c lv) (kt k0 : Nat) (hkt : lv kt = true) (hown : Own1 w' base e size R (v' k0) (c k0)) (hg : w.grownBy w' (v kt).ownBlock)
    (hb : (v' k0).ownBlock = (v kt).ownBlock ∨ (v' k0).ownBlock = some w.heap.size)
    (hlv : ∀ k, lv' k = true → k = k0 ∨ (lv k = true ∧ k ≠ kt)) (hv : ∀ k, k ≠ k0 → v' k = v k) : LiveRows w' base e size R v' c lv' := by
  have old : ∀ k, lv' k = true → k ≠ k0 → lv k = true ∧ k ≠ kt := fun k hk hne => (hlv k hk).resolve_left hne
  have lt : ∀ k g, lv k = true → (v k).ownBlock = some g → g < w.heap.size := fun k g hk hg => ((h.own k hk).block g hg).2
  have key : ∀ k, lv' k = true → k ≠ k0 → (v' k0).ownBlock ≠ (v k).ownBlock := fun k hk hne he => by
    obtain ⟨h1, h2⟩ := old k hk hne
    rcases hb with hb | hb
    · rw [hb] at he
      exact h.far kt k hkt h1 (fun e => h2 e.symm) he
    · rw [hb] at he
      have := lt k _ h1 he.symm
      omega
  refine ⟨fun k hk => ?_, fun k hk => ?_, fun k k' hk hk' hne => ?_⟩
  · by_cases e : k = k0
    · subst e; exact hown
    · rw [hv k e]
      obtain ⟨h1, h2⟩ := old k hk e
      exact (h.own k h1).apart hg (fun g hgk he => h.far k kt h1 hkt h2 (by rw [hgk, he]))
  · by_cases e : k = k0
    · subst e
      obtain ⟨g, hg'⟩ := h.blk kt hkt
      rcases hb with hb | hb
      · exact ⟨g, by rw [hb, hg']⟩
      · exact ⟨_, hb⟩
    · rw [hv k e]; exact h.blk k (old k hk e).1
  · by_cases e : k = k0
    · subst e
      have e' : k' ≠ k := fun e' => hne e'.symm
      rw [hv k' e']
      exact key k' hk' e'
    · by_cases e' : k' = k0
      · subst e'
        rw [hv k e]
        exact (key k hk e).symm
      · rw [hv k e, hv k' e']
        exact h.far k k' (old k hk e).1 (old k' hk' e').1 hne
/-- nothing but another world in which these rows stay -/
theorem LiveRows.less (h : LiveRows w base e size R v c lv) (hlv : ∀ k, lv' k = true → lv k = true) (hv : ∀ k, lv' k = true → v' k = v k) : LiveRows w base e size R v' c lv' :=
  ⟨fun k hk => by rw [hv k hk]; exact h.own k (hlv k hk), fun k hk => by rw [hv k hk]; exact h.blk k (hlv k hk), fun k k' hk hk' hne => by rw [hv k hk, hv k' hk']; exact h.far k k' (hlv k hk) (hlv k' hk') hne⟩
end
section
variable {P : Program} {α : Type}
/-- an append that comes up in a region that draws -/
theorem wpOp_append_list {ops : Array Oper} {k : Nat} {o : Oper} {a : Act} {K : Act → World → Prop} {Q : Exit → Act → World → Prop} {w : World} (hk : ops[k]? = some o) (hgd : o.guard = none) (s x : Operand) (t : TypeId)
    (ho : o.op = .call { callee := .builtin .append, args := #[s, x], argTypes := #[t, t] })
    (base B : Nat) (e : TypeId) (i : TypeInfo) (z : Value) (size bytes : Nat) (ht : P.underlying t = some (.slice e)) (hi : P.info? e = some i) (hz : i.zero = some z)
    (hsize : i.size = size) (hby : i.bytes = bytes) (hzs : z.cells.size = size) (hsz : 0 < size) {R : List Value → α → Prop} {l m : List α}
    (v : Value) (hs : a.eval s = v) (hown : Own1 w base e size R v l) (A : Option Addr) (n c : Nat) (hx : a.eval x = .slice A n c) (hsrc : SlR w B size R (.slice A n c) m)
    (N : Nat) (hN : N = l.length + n) (h1 : ∀ x y, R x y → ∀ u ∈ x, u.oneCell' = true) (h63 : l.length + n ≤ maxLen) (hbytes : (l.length + n) * bytes ≤ 140737488355328) (hbase : base ≤ w.heap.size)
    (h : ∀ (a' : Option Addr) (c' : Nat) w', Own1 w' base e size R (.slice a' N c') (l ++ m) → w.grownBy w' v.ownBlock → ((Value.slice a' N c').ownBlock = v.ownBlock ∨ (Value.slice a' N c').ownBlock = some w.heap.size) → K (a.put o.dst (.slice a' N c')) w') : wpOp P ops Q k K a w := by
  obtain ⟨v', w', hrun, h2, h3, h4⟩ := run_append_list (P := P) w base B t o.type e i z size bytes ht hi hz hsize hby hzs hsz v hown A n c hsrc h1 h63 hbytes hbase
  unfold wpOp
  simp only [hk]
  rw [if_pos (by simp [Region.wanted, hgd])]
  left
  unfold Oper.wp execOp
  simp only [ho, resolve, invoke, builtin, Sem.run_bind, Sem.run_pure, Result.andThen_ok, List.map_toArray, List.map_cons, List.map_nil, hs, hx, hrun]
  obtain ⟨a', c', rfl⟩ := h2.form
  have e : (l ++ m).length = N := by rw [hN, List.length_append, hsrc.len]
  rw [e] at h2 h4 ⊢
  exact h a' c' w' h2 h3 h4
end
/-- an operation without a guard -/
theorem wpOp_plain {P : Program} {ops : Array Oper} {k : Nat} {o : Oper} {a : Act} {K : Act → World → Prop} {Q : Exit → Act → World → Prop} {w : World} (hk : ops[k]? = some o) (hgd : o.guard = none) (h : o.wp P a w K Q) : wpOp P ops Q k K a w := by
  unfold wpOp
  simp only [hk]
  rw [if_pos (by simp [Region.wanted, hgd])]
  exact .inl h
end Go.Proofs.YtdkoafmgenbkbaaDoor
namespace Go.Proofs.YtdkoafmgenbkbaaDoor
set_option linter.unusedSimpArgs false
set_option linter.unusedVariables false
open Go.RowKit

section
variable {P : Program} {ops : Array Oper} {Q : Exit → Act → World → Prop} {md : Region.Mode}
/-- all is listed where nothing is ready -/
theorem ready_nil_all {listed : Array Bool} (hord : ((List.range ops.size).all fun i => ((ops[i]?).map fun o => o.after.all fun e => !Region.binds md e || decide (e.on < i)).getD true) = true) (h : Region.ready md ops listed = []) :
    ∀ i, i < ops.size → listed.getD i true = true := by
  have key : ∀ n, ∀ i, i < n → i < ops.size → listed.getD i true = true := by
    intro n
    induction n with
    | zero => intro i hi; omega
    | succ n ih =>
      intro i hi hs
      rcases hb : listed.getD i true with _ | _
      · exfalso
        have hm : i ∈ Region.ready md ops listed := by
          refine mem_ready.2 ⟨hb, ops[i], Array.getElem?_eq_getElem hs, fun e he hbd => ?_⟩
          have h1 := (List.all_eq_true.1 hord) i (List.mem_range.2 hs)
          rw [Array.getElem?_eq_getElem hs] at h1
          simp only [Option.map_some, Option.getD_some] at h1
          have h2 := (Array.all_eq_true_iff_forall_mem.1 h1) e he
          rw [hbd] at h2
          have h2 := of_decide_eq_true (by simpa using h2)
          have h3 := ih e.on (by omega) (by omega)
          rcases Nat.lt_or_ge e.on listed.size with h4 | h4
          · simpa [Array.getD, h4] using h3
          · have : ¬ i < listed.size := by omega
            simp [Array.getD, this] at hb
        rw [h] at hm
        cases hm
      · rfl
  exact fun i hs => key (i + 1) i (Nat.lt_succ_self i) hs
/-- what is listed waits for nothing -/
def Closed (ops : Array Oper) (listed : Array Bool) : Prop := ∀ k o, ops[k]? = some o → listed.getD k false = true → ∀ e ∈ o.after, Region.binds .any e = true → listed.getD e.on false = true
theorem getD_set {L : Array Bool} {k j : Nat} (hk : k < L.size) : (L.setIfInBounds k true).getD j false = if j = k then true else L.getD j false := by
  simp only [Array.getD_eq_getD_getElem?]
  by_cases h : j = k
  · subst h; simp [hk]
  · rw [if_neg h, Array.getElem?_setIfInBounds_ne (fun e => h e.symm)]
theorem getD_put {a : Act} {d e : Nat} {v : Value} (hd : d < a.tmps.size) : (a.put (some d) v).tmps.getD e undef = if e = d then v else a.tmps.getD e undef := by
  simp only [Act.put, Array.getD_eq_getD_getElem?]
  by_cases h : e = d
  · subst h; simp [hd]
  · rw [if_neg h, Array.getElem?_setIfInBounds_ne (fun e' => h e'.symm)]
/-- what an operation waits for -/
def afters (ops : Array Oper) (k : Nat) : List Nat := ((ops[k]?).map fun o => (o.after.toList.filter (Region.binds .any)).map (·.on)).getD []
def reach (ops : Array Oper) : Nat → Nat → List Nat
  | 0, _ => []
  | n + 1, k => afters ops k ++ (afters ops k).flatMap (reach ops n)
theorem mem_afters {k j : Nat} : j ∈ afters ops k ↔ ∃ o, ops[k]? = some o ∧ ∃ e ∈ o.after, Region.binds .any e = true ∧ e.on = j := by
  unfold afters
  rcases h : ops[k]? with _ | o
  · simp
  · simp only [Option.map_some, Option.getD_some, List.mem_map, List.mem_filter, Array.mem_toList_iff, Option.some.injEq, exists_eq_left']
    exact ⟨fun ⟨e, ⟨h1, h2⟩, h3⟩ => ⟨e, h1, h2, h3⟩, fun ⟨e, h1, h2, h3⟩ => ⟨e, ⟨h1, h2⟩, h3⟩⟩
theorem Closed.reach {L : Array Bool} (hc : Closed ops L) : ∀ n k j, L.getD k false = true → j ∈ reach ops n k → L.getD j false = true := by
  intro n
  induction n with
  | zero => intro k j _ h; cases h
  | succ n ih =>
    intro k j hk h
    unfold Proofs.YtdkoafmgenbkbaaDoor.reach at h
    have one : ∀ j, j ∈ afters ops k → L.getD j false = true := by
      intro j hj
      obtain ⟨o, ho, e, he, hb, rfl⟩ := mem_afters.1 hj
      exact hc k o ho hk e he hb
    rcases List.mem_append.1 h with h | h
    · exact one j h
    · obtain ⟨m, hm, hj⟩ := List.mem_flatMap.1 h
      exact ih m j (one m hm) hj
/-- what all else comes ahead of is not listed while one isn't -/
theorem Closed.before {L : Array Bool} {k last : Nat} (hc : Closed ops L) (hr : ((List.range last).all fun j => (Proofs.YtdkoafmgenbkbaaDoor.reach ops 8 last).elem j) = true) (hk : k < last) (hu : L.getD k false = false) : L.getD last false = false := by
  rcases h : L.getD last false with _ | _
  · rfl
  · have h1 := (List.all_eq_true.1 hr) k (List.mem_range.2 hk)
    have := hc.reach 8 last k h (List.mem_of_elem_eq_true h1)
    rw [hu] at this
    cases this
theorem Closed.before24 {L : Array Bool} {k n : Nat} (hc : Closed ops L) (hr : (afters ops n).elem k = true) (hu : L.getD k false = false) : L.getD n false = false := by
  rcases h : L.getD n false with _ | _
  · rfl
  · obtain ⟨o, ho, e, he, hb, rfl⟩ := mem_afters.1 (List.mem_of_elem_eq_true hr)
    have := hc n o ho h e he hb
    rw [hu] at this
    cases this
theorem wp_region_closed {id : Nat} {a : Act} {w : World} (hm : P.follows .mixedOrders = true) (Inv : Array Bool → Act → World → Prop)
    (hord : ((List.range ops.size).all fun i => ((ops[i]?).map fun o => o.after.all fun e => !Region.binds .any e || decide (e.on < i)).getD true) = true)
    (h0 : Inv (Array.replicate ops.size false) a { w with drawn := w.drawn + 1 })
    (hstep : ∀ L a w i, Closed ops L → Inv L a w → i < ops.size → L.getD i false = false → (∀ j, (afters ops i).elem j = true → L.getD j false = true) → wpOp P ops Q i (Inv (L.setIfInBounds i true)) a w)
    (hdone : ∀ L a w, Inv L a w → (∀ i, i < ops.size → L.getD i false = true) → Q .normal a w) : (Code.region id ops true).wp P Q a w := by
  refine wp_region_inv hm (fun L a w => L.size = ops.size ∧ Closed ops L ∧ Inv L a w) ⟨by simp, ?_, h0⟩ ?_ ?_
  · intro k o hk hl
    simp only [Array.getD_eq_getD_getElem?, Array.getElem?_replicate] at hl
    split at hl <;> cases hl
  · rintro L a w i ⟨hs, hc, hI⟩ hr
    obtain ⟨hu, o, ho, haft⟩ := mem_ready.1 hr
    have hlt : i < ops.size := (Array.getElem?_eq_some_iff.1 ho).1
    have hu' : L.getD i false = false := by simpa [Array.getD, hs, hlt] using hu
    refine wpOp_mono (fun a' w' h => ⟨by simpa using hs, ?_, h⟩) (hstep L a w i hc hI hlt hu' (fun j hj => ?_))
    · intro k o' hk hl e he hb
      rw [getD_set (by omega)] at hl ⊢
      by_cases hki : k = i
      · subst hki
        rw [hk] at ho
        injection ho with ho
        subst ho
        rw [haft e he hb]
        split <;> rfl
      · rw [if_neg hki] at hl
        rw [hc k o' hk hl e he hb]
        split <;> rfl
    · obtain ⟨o', ho', e, he, hb, rfl⟩ := mem_afters.1 (List.mem_of_elem_eq_true hj)
      rw [ho] at ho'
      injection ho' with ho'
      subst ho'
      exact haft e he hb
  · rintro L a w ⟨hs, _, hI⟩ hr
    refine hdone L a w hI fun i hi => ?_
    have := ready_nil_all hord hr i hi
    simpa [Array.getD, hs, hi] using this
end

theorem slotAt {a : Act} {k : Nat} {v : Value} (h : a.tmps.getD k undef = v) : ∀ h' : k < a.tmps.size, a.tmps[k] = v := fun h' => by simpa [Array.getD, h'] using h
theorem wf47 {x : Int} (h1 : -9223372036854775808 ≤ x) (h2 : x ≤ 9223372036854775807) : (Lit.int .i64 x).wf = true := by
  simpa [Lit.wf, IntKind.min, IntKind.max, IntKind.signed, IntKind.bits] using ⟨h1, h2⟩
theorem own_one {w : World} {base g : Nat} {t : TypeId} (x : Int) (hwf : (Lit.int .i64 x).wf = true) (hg : g = w.heap.size) (hb : base ≤ w.heap.size) : Own1 (w.alloc (.cells #[.int .i64 x] t)) base t 1 IsInt (.slice (some ⟨g, 0, none⟩) 1 1) [x] := by
  subst hg
  exact ⟨[.int .i64 x], ⟨by simp, .inr ⟨w.heap.size, 1, #[.int .i64 x], rfl, hb, heap_alloc_new w _, by simp, by simp [maxLen], by simp, by simp⟩⟩, FlatR.one rfl ⟨rfl, hwf⟩⟩

/-- which rows live: made, and not yet laid on -/
def next47 (k : Nat) : Nat := match k with | 6 => 9 | 9 => 14 | 13 => 14 | 14 => 23 | 15 => 18 | 18 => 22 | 21 => 22 | 22 => 23 | _ => 23
def row47 (k : Nat) : Bool := decide (k ∈ [6, 9, 13, 14, 15, 18, 21, 22])
def live47 (L : Array Bool) (k : Nat) : Bool := row47 k && L.getD k false && !(L.getD (next47 k) false)
def cont47 (BS NS : List Int) (x y : Int) (k : Nat) : List Int := match k with | 9 => BS | 13 => [x] | 14 => BS ++ [x] | 18 => NS | 21 => [y] | 22 => NS ++ [y] | _ => []
def fix47 (g n c : Nat) (i : Int) (q8 : Nat) (ph : Int) (bv nv : Value) (k : Nat) : Option Value := match k with
  | 0 => some (.slice (some ⟨g, 0, none⟩) n c) | 1 => some (.int .i64 i) | 2 => some (.int .i64 (i + 1)) | 3 => some (.pointer (some ⟨q8, 1, none⟩)) | 4 => some (.int .i64 ph) | 5 => some (.int .i64 (ph - 1))
  | 7 => some (.pointer (some ⟨q8, 2, none⟩)) | 8 => some bv | 10 => some (.pointer (some ⟨q8, 1, none⟩)) | 11 => some (.int .i64 ph) | 12 => some (.int .i64 (ph - 1))
  | 16 => some (.pointer (some ⟨q8, 3, none⟩)) | 17 => some nv | 19 => some (.int .i64 i) | 20 => some (.int .i64 (i + 1)) | _ => none
/-- all that stays as it was, with what the reading operations hold -/
structure R47 (w9 : World) (g n c : Nat) (i : Int) (q8 : Nat) (ph : Int) (bv nv : Value) (BS NS : List Int) (r : Option (List Pl)) (L : Array Bool) (a : Act) (w : World) : Prop where
  lsz : L.size = 25
  asz : a.tmps.size = 334
  dfs : a.defers = []
  t1 : a.tmps.getD 1 undef = .slice (some ⟨g, 0, none⟩) n c
  t2 : a.tmps.getD 2 undef = .int .i64 i
  t8 : a.tmps.getD 8 undef = .pointer (some ⟨q8, 0, none⟩)
  fx : ∀ k v, fix47 g n c i q8 ph bv nv k = some v → L.getD k false = true → a.tmps.getD (241 + k) undef = v
  bel : L.getD 23 false = false → Below w9.heap.size w9 w
  liv : L.getD 23 false = false → LiveRows w w9.heap.size 3 1 IsInt (fun k => a.tmps.getD (241 + k) undef) (cont47 BS NS (ph - 1) (i + 1)) (live47 L)
  ans : L.getD 23 false = true → a.tmps.getD 264 undef = .bool r.isSome ∧ w9.grownBy w (some g) ∧ ∀ l', r = some l' → KnS w g l'
  fin : L.getD 24 false = true → a.tmps.getD 6 undef = .bool r.isSome
section
variable {w9 : World} {g n c : Nat} {i : Int} {q8 : Nat} {ph : Int} {bv nv : Value} {BS NS : List Int} {r : Option (List Pl)} {L : Array Bool} {a : Act} {w w' : World}
theorem row_next {j : Nat} (h : row47 j = true) : j = 6 ∨ j = 9 ∨ j = 13 ∨ j = 14 ∨ j = 15 ∨ j = 18 ∨ j = 21 ∨ j = 22 := by simpa [row47] using h
/-- behind a reading operation -/
theorem R47.read (h : R47 w9 g n c i q8 ph bv nv BS NS r L a w) (k : Nat) {v : Value} (hk : fix47 g n c i q8 ph bv nv k = some v) (hr : row47 k = false) (hk2 : k < 23) : R47 w9 g n c i q8 ph bv nv BS NS r (L.setIfInBounds k true) (a.put (some (241 + k)) v) w := by
  have hs := h.lsz
  have ha := h.asz
  have hT : ∀ e, (a.put (some (241 + k)) v).tmps.getD e undef = if e = 241 + k then v else a.tmps.getD e undef := fun e => getD_put (by omega)
  have hL : ∀ j, (L.setIfInBounds k true).getD j false = if j = k then true else L.getD j false := fun j => getD_set (by omega)
  have hrow : ∀ j, row47 j = true → j ≠ k := fun j hj e => by subst e; rw [hr] at hj; cases hj
  refine ⟨by simpa using hs, by simpa [Act.put] using ha, by simpa [Act.put] using h.dfs, ?_, ?_, ?_, ?_, ?_, ?_, ?_, ?_⟩
  · rw [hT, if_neg (by omega)]; exact h.t1
  · rw [hT, if_neg (by omega)]; exact h.t2
  · rw [hT, if_neg (by omega)]; exact h.t8
  · intro j u hj hl
    rw [hT]
    rw [hL] at hl
    by_cases e : j = k
    · subst e; rw [if_pos rfl]; rw [hk] at hj; injection hj
    · rw [if_neg e] at hl; rw [if_neg (by omega)]; exact h.fx j u hj hl
  · intro hl; rw [hL, if_neg (by omega)] at hl; exact h.bel hl
  · intro hl
    rw [hL, if_neg (by omega)] at hl
    refine (h.liv hl).less (fun j hj => ?_) (fun j hj => ?_)
    · simp only [live47, Bool.and_eq_true, Bool.not_eq_true'] at hj ⊢
      obtain ⟨⟨h1, h2⟩, h3⟩ := hj
      rw [hL, if_neg (hrow j h1)] at h2
      rw [hL] at h3
      split at h3
      · cases h3
      · exact ⟨⟨h1, h2⟩, h3⟩
    · simp only [live47, Bool.and_eq_true] at hj
      have := hrow j hj.1.1
      show (a.put (some (241 + k)) v).tmps.getD (241 + j) undef = _
      rw [hT, if_neg (by omega)]
  · intro hl; rw [hL, if_neg (by omega)] at hl; rw [hT, if_neg (by omega)]; exact h.ans hl
  · intro hl; rw [hL, if_neg (by omega)] at hl; rw [hT, if_neg (by omega)]; exact h.fin hl
/-- what holds behind an operation that makes or grows a row, but for the rows -/
theorem R47.grow (h : R47 w9 g n c i q8 ph bv nv BS NS r L a w) (k : Nat) {v : Value} (hr : row47 k = true) (h23 : L.getD 23 false = false) (hb : Below w9.heap.size w9 w')
    (hliv : LiveRows w' w9.heap.size 3 1 IsInt (fun j => (a.put (some (241 + k)) v).tmps.getD (241 + j) undef) (cont47 BS NS (ph - 1) (i + 1)) (live47 (L.setIfInBounds k true))) :
    R47 w9 g n c i q8 ph bv nv BS NS r (L.setIfInBounds k true) (a.put (some (241 + k)) v) w' := by
  have hs := h.lsz
  have ha := h.asz
  have hk2 : k < 23 ∧ fix47 g n c i q8 ph bv nv k = none := by
    rcases row_next hr with rfl | rfl | rfl | rfl | rfl | rfl | rfl | rfl
    all_goals exact ⟨by omega, rfl⟩
  have hT : ∀ e, (a.put (some (241 + k)) v).tmps.getD e undef = if e = 241 + k then v else a.tmps.getD e undef := fun e => getD_put (by omega)
  have hL : ∀ j, (L.setIfInBounds k true).getD j false = if j = k then true else L.getD j false := fun j => getD_set (by omega)
  refine ⟨by simpa using hs, by simpa [Act.put] using ha, by simpa [Act.put] using h.dfs, ?_, ?_, ?_, ?_, fun _ => hb, fun _ => hliv, ?_, ?_⟩
  · rw [hT, if_neg (by omega)]; exact h.t1
  · rw [hT, if_neg (by omega)]; exact h.t2
  · rw [hT, if_neg (by omega)]; exact h.t8
  · intro j u hj hl
    rw [hT]
    rw [hL] at hl
    by_cases e : j = k
    · subst e; rw [hk2.2] at hj; cases hj
    · rw [if_neg e] at hl; rw [if_neg (by omega)]; exact h.fx j u hj hl
  · intro hl; rw [hL, if_neg (by omega), h23] at hl; cases hl
  · intro hl; rw [hL, if_neg (by omega)] at hl; rw [hT, if_neg (by omega)]; exact h.fin hl
theorem live_set {k : Nat} (hs : L.size = 25) (hk : k < 23) (j : Nat) : live47 (L.setIfInBounds k true) j = (row47 j && (decide (j = k) || L.getD j false) && !(decide (next47 j = k) || L.getD (next47 j) false)) := by
  unfold live47
  rw [getD_set (by omega), getD_set (by omega)]
  by_cases h1 : j = k <;> by_cases h2 : next47 j = k <;> simp [h1, h2]
/-- a row made new -/
theorem R47.new (h : R47 w9 g n c i q8 ph bv nv BS NS r L a w) (k : Nat) {v : Value} {o : Obj} (hr : row47 k = true) (h23 : L.getD 23 false = false) (hown : Own1 (w.alloc o) w9.heap.size 3 1 IsInt v (cont47 BS NS (ph - 1) (i + 1) k)) (hb : v.ownBlock = some w.heap.size) :
    R47 w9 g n c i q8 ph bv nv BS NS r (L.setIfInBounds k true) (a.put (some (241 + k)) v) (w.alloc o) := by
  have hs := h.lsz
  have ha := h.asz
  have hk2 : k < 23 := by rcases row_next hr with rfl | rfl | rfl | rfl | rfl | rfl | rfl | rfl <;> omega
  have hT : ∀ e, (a.put (some (241 + k)) v).tmps.getD e undef = if e = 241 + k then v else a.tmps.getD e undef := fun e => getD_put (by omega)
  have hbel := h.bel h23
  refine h.grow k hr h23 (hbel.alloc hbel.size _) ?_
  refine (h.liv h23).new k o ?_ ?_ (fun j hj => ?_) (fun j hj => ?_)
  · show Own1 _ _ _ _ _ ((a.put (some (241 + k)) v).tmps.getD (241 + k) undef) _
    rw [hT, if_pos rfl]; exact hown
  · show ((a.put (some (241 + k)) v).tmps.getD (241 + k) undef).ownBlock = _
    rw [hT, if_pos rfl]; exact hb
  · rw [live_set hs hk2] at hj
    by_cases e : j = k
    · exact .inl e
    · right
      simp only [e, decide_false, Bool.false_or, Bool.and_eq_true, Bool.not_eq_true', Bool.or_eq_false_iff] at hj
      unfold live47
      rw [hj.1.1, hj.1.2, hj.2.2]; rfl
  · show (a.put (some (241 + k)) v).tmps.getD (241 + j) undef = _
    rw [hT, if_neg (by omega)]
/-- a row grown: kt's, laid on as k's -/
theorem R47.app (h : R47 w9 g n c i q8 ph bv nv BS NS r L a w) (k kt : Nat) {v u : Value} (hr : row47 k = true) (hrt : row47 kt = true) (hkt : next47 kt = k) (hlt : L.getD kt false = true) (hu : L.getD k false = false) (h23 : L.getD 23 false = false)
    (hv : a.tmps.getD (241 + kt) undef = u)
    (hown : Own1 w' w9.heap.size 3 1 IsInt v (cont47 BS NS (ph - 1) (i + 1) k)) (hg : w.grownBy w' u.ownBlock) (hb : v.ownBlock = u.ownBlock ∨ v.ownBlock = some w.heap.size) :
    R47 w9 g n c i q8 ph bv nv BS NS r (L.setIfInBounds k true) (a.put (some (241 + k)) v) w' := by
  subst hv
  have hs := h.lsz
  have ha := h.asz
  have hk2 : k < 23 := by rcases row_next hr with rfl | rfl | rfl | rfl | rfl | rfl | rfl | rfl <;> omega
  have hT : ∀ e, (a.put (some (241 + k)) v).tmps.getD e undef = if e = 241 + k then v else a.tmps.getD e undef := fun e => getD_put (by omega)
  have hbel := h.bel h23
  have hlkt : live47 L kt = true := by unfold live47; rw [hrt, hlt, hkt, hu]; rfl
  have hne : kt ≠ k := fun e => by subst e; rw [hlt] at hu; cases hu
  have hblk := ((h.liv h23).own kt hlkt).block
  refine h.grow k hr h23 ?_ ?_
  · obtain ⟨g', hg'⟩ := (h.liv h23).blk kt hlkt
    have h1 := (hblk g' hg').1
    rw [hg'] at hg
    exact below_grown hbel hbel.size hg h1
  refine (h.liv h23).app kt k hlkt ?_ hg ?_ (fun j hj => ?_) (fun j hj => ?_)
  · show Own1 _ _ _ _ _ ((a.put (some (241 + k)) v).tmps.getD (241 + k) undef) _
    rw [hT, if_pos rfl]; exact hown
  · show ((a.put (some (241 + k)) v).tmps.getD (241 + k) undef).ownBlock = _ ∨ ((a.put (some (241 + k)) v).tmps.getD (241 + k) undef).ownBlock = _
    rw [hT, if_pos rfl]; exact hb
  · rw [live_set hs hk2] at hj
    by_cases e : j = k
    · exact .inl e
    · right
      simp only [e, decide_false, Bool.false_or, Bool.and_eq_true, Bool.not_eq_true', Bool.or_eq_false_iff, decide_eq_false_iff_not] at hj
      refine ⟨?_, fun e' => hj.2.1 (by rw [e']; exact hkt)⟩
      unfold live47
      rw [hj.1.1, hj.1.2, hj.2.2]; rfl
  · show (a.put (some (241 + k)) v).tmps.getD (241 + j) undef = _
    rw [hT, if_neg (by omega)]
theorem R47.rowAt (h : R47 w9 g n c i q8 ph bv nv BS NS r L a w) (k : Nat) (hr : row47 k = true) (hl : L.getD k false = true) (hn : L.getD (next47 k) false = false) (h23 : L.getD 23 false = false) :
    Own1 w w9.heap.size 3 1 IsInt (a.tmps.getD (241 + k) undef) (cont47 BS NS (ph - 1) (i + 1) k) := (h.liv h23).own k (by unfold live47; rw [hr, hl, hn]; rfl)
/-- behind the call -/
theorem R47.call (h : R47 w9 g n c i q8 ph bv nv BS NS r L a w) (h23 : L.getD 23 false = false) (h24 : L.getD 24 false = false) (hg : w.grownBy w' (some g)) (hk : ∀ l', r = some l' → KnS w' g l') :
    R47 w9 g n c i q8 ph bv nv BS NS r (L.setIfInBounds 23 true) (a.put (some 264) (.bool r.isSome)) w' := by
  have hs := h.lsz
  have ha := h.asz
  have hT : ∀ e, (a.put (some 264) (.bool r.isSome)).tmps.getD e undef = if e = 264 then (.bool r.isSome) else a.tmps.getD e undef := fun e => getD_put (by omega)
  have hL : ∀ j, (L.setIfInBounds 23 true).getD j false = if j = 23 then true else L.getD j false := fun j => getD_set (by omega)
  refine ⟨by simpa using hs, by simpa [Act.put] using ha, by simpa [Act.put] using h.dfs, ?_, ?_, ?_, ?_, ?_, ?_, ?_, ?_⟩
  · rw [hT, if_neg (by omega)]; exact h.t1
  · rw [hT, if_neg (by omega)]; exact h.t2
  · rw [hT, if_neg (by omega)]; exact h.t8
  · intro j u hj hl
    rw [hT]
    rw [hL] at hl
    by_cases e : j = 23
    · subst e; cases hj
    · rw [if_neg e] at hl; rw [if_neg (by omega)]; exact h.fx j u hj hl
  · intro hl; rw [hL, if_pos rfl] at hl; cases hl
  · intro hl; rw [hL, if_pos rfl] at hl; cases hl
  · intro _; exact ⟨by rw [hT, if_pos rfl], grown_trans (grown_below (by have := h.bel h23; exact this) _) hg, hk⟩
  · intro hl; rw [hL, if_neg (by omega), h24] at hl; cases hl
theorem R47.last (h : R47 w9 g n c i q8 ph bv nv BS NS r L a w) (h23 : L.getD 23 false = true) : R47 w9 g n c i q8 ph bv nv BS NS r (L.setIfInBounds 24 true) (a.put (some 6) (.bool r.isSome)) w := by
  have hs := h.lsz
  have ha := h.asz
  have hT : ∀ e, (a.put (some 6) (.bool r.isSome)).tmps.getD e undef = if e = 6 then (.bool r.isSome) else a.tmps.getD e undef := fun e => getD_put (by omega)
  have hL : ∀ j, (L.setIfInBounds 24 true).getD j false = if j = 24 then true else L.getD j false := fun j => getD_set (by omega)
  refine ⟨by simpa using hs, by simpa [Act.put] using ha, by simpa [Act.put] using h.dfs, ?_, ?_, ?_, ?_, ?_, ?_, ?_, ?_⟩
  · rw [hT, if_neg (by omega)]; exact h.t1
  · rw [hT, if_neg (by omega)]; exact h.t2
  · rw [hT, if_neg (by omega)]; exact h.t8
  · intro j u hj hl
    rw [hT]
    rw [hL] at hl
    by_cases e : j = 24
    · subst e; cases hj
    · rw [if_neg e] at hl; rw [if_neg (by omega)]; exact h.fx j u hj hl
  · intro hl; rw [hL, if_neg (by omega), h23] at hl; cases hl
  · intro hl; rw [hL, if_neg (by omega), h23] at hl; cases hl
  · intro _; rw [hT, if_neg (by omega)]; exact h.ans h23
  · intro _; rw [hT, if_pos rfl]
/-- ahead of all -/
theorem R47.start (ha : a.tmps.size = 334) (hd : a.defers = []) (h1 : a.tmps.getD 1 undef = .slice (some ⟨g, 0, none⟩) n c) (h2 : a.tmps.getD 2 undef = .int .i64 i) (h8 : a.tmps.getD 8 undef = .pointer (some ⟨q8, 0, none⟩)) :
    R47 w9 g n c i q8 ph bv nv BS NS r (Array.replicate 25 false) a w9.drew := by
  have hL : ∀ j, (Array.replicate 25 false).getD j false = false := fun j => by
    simp only [Array.getD_eq_getD_getElem?, Array.getElem?_replicate]
    split <;> rfl
  have hlv : ∀ j, live47 (Array.replicate 25 false) j = false := fun j => by unfold live47; rw [hL]; simp
  refine ⟨by simp, ha, hd, h1, h2, h8, fun j u _ hl => ?_, fun _ => (Below.refl _ _).drew, fun _ => ⟨fun j hj => ?_, fun j hj => ?_, fun j _ hj => ?_⟩, fun hl => ?_, fun hl => ?_⟩
  · rw [hL] at hl; cases hl
  · rw [hlv] at hj; cases hj
  · rw [hlv] at hj; cases hj
  · rw [hlv] at hj; cases hj
  · rw [hL] at hl; cases hl
  · rw [hL] at hl; cases hl
end
end Go.Proofs.YtdkoafmgenbkbaaDoor
