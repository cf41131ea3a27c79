/- imports - - - - - - - - - - - - - - - - - - -/
import Derived.Below
import Derived.BigQuiet
import Derived.BigRegion
import Derived.ChangeOld
import Derived.Deep.AppendLies
import Derived.Deep.CutBlock
import Derived.Deep.CutRange
import Derived.Deep.DeepHandedRow
import Derived.Deep.Draws
import Derived.Deep.Fields
import Derived.Deep.LoopGhost
import Derived.Deep.QuietTactic
import Derived.Deep.RegionHeld2
import Derived.Deep.RegionHeld3
import Derived.Deep.RegionLaw
import Derived.Deep.Slices
import Derived.Deep.Strs
import Derived.Defers
import Derived.IntWalk
import Derived.JoinedCond
import Derived.Laws.BytesString
import Derived.Laws.Cover1
import Derived.Laws.EntriesVeiled
import Derived.Laws.IdiomStrings
import Derived.Laws.MakeOwn
import Derived.Laws.OwnMore
import Derived.Laws.Pointers
import Derived.Laws.Rows
import Derived.Lib.AppendStr
import Derived.Lib.Builder
import Derived.Lib.CutLaws
import Derived.Lib.FrozenHead
import Derived.Lib.Hide
import Derived.Lib.ItoaNum
import Derived.Lib.LaidTab
import Derived.Lib.ParseIntB
import Derived.Lib.SliceRun
import Derived.Lib.SlicesS
import Derived.Maps.AppendAt
import Derived.OpenShut
import Derived.Orders
import Derived.Outline
import Derived.OwnWalk
import Derived.ProofKit
import Derived.Recover
import Derived.RegionTactic
import Derived.ShutString
import Derived.SizedLaws
import Derived.StillTailTactics
import Derived.Stop.LaidErr
import Derived.Tactics
import Derived.Tactics2
import Derived.WalkKit
import Derived.WalkMore
import Derived.WalkSmall
import Derived.WalkSpells
import Derived.Test.YtdkoafmgenbkbaaGreatDoorProg
import Derived.Test.YtdkoafmgenbkbaaGreatDoorShelfK
import Derived.Test.YtdkoafmgenbkbaaGreatDoorCards
import Derived.Test.YtdkoafmgenbkbaaGreatDoorTie
set_option maxRecDepth 100000
set_option maxHeartbeats 32000000
set_option linter.unusedSimpArgs false
set_option linter.unusedVariables false
namespace Go.Proofs.YtdkoafmgenbkbaaGreatDoor
open Go.RowKit
theorem zH {p : Prop} (h : p) : Hid p := h
theorem zB {B : Nat} {w : World} : Below B w w := Below.refl B w
theorem zL {n : Nat} : n ≤ n := Nat.le_refl n
end Go.Proofs.YtdkoafmgenbkbaaGreatDoor
namespace Go.Proofs.YtdkoafmgenbkbaaGreatDoor
open Go.RowKit Go.ChangeShapes Go.WideShapes Go.ChangeAt
theorem own : ownKnob Tryz.prog.godebug = none := by kernel_rfl
end Go.Proofs.YtdkoafmgenbkbaaGreatDoor
namespace Go.Proofs.YtdkoafmgenbkbaaGreatDoor
open Go.RowKit Go.ChangeShapes Go.WideShapes Go.Deep
def SlR {α : Type} (w : World) (B size : Nat) (R : List Value → α → Prop) (v : Value) (l : List α) : Prop :=
  ∃ (a : Option Addr) (c : Nat), v = .slice a l.length c ∧ l.length ≤ c ∧ c ≤ maxLen ∧
    (0 < l.length → ∃ b off, a = some ⟨b, off, none⟩ ∧ b < B ∧ ∀ (i : Nat) (y : α), l[i]? = some y → ∃ x : List Value, x.length = size ∧ R x y ∧ ∀ (j : Nat) (u : Value), x[j]? = some u → w.cell? ⟨b, off + i * size + j, none⟩ = some u)
section
variable {α : Type} {w w' : World} {B B' size : Nat} {R R' : List Value → α → Prop} {v : Value} {l : List α}
theorem SlR.nil_ (c : Nat) (hc : c ≤ maxLen) (a : Option Addr) : SlR w B size R (.slice a 0 c) ([] : List α) := ⟨a, c, rfl, Nat.zero_le _, hc, fun h => absurd h (by simp)⟩
theorem SlR.keep (h : SlR w B size R v l) (hk : ∀ p : Addr, p.block < B → w'.cell? p = w.cell? p) (hR : ∀ x y, R x y → R' x y) (hB : B ≤ B') : SlR w' B' size R' v l := by
  obtain ⟨a, c, rfl, h1, h2, h3⟩ := h
  refine ⟨a, c, rfl, h1, h2, fun hl => ?_⟩
  obtain ⟨b, off, ha, hb, hc⟩ := h3 hl
  refine ⟨b, off, ha, by omega, fun i y hy => ?_⟩
  obtain ⟨x, hx1, hx2, hx3⟩ := hc i y hy
  exact ⟨x, hx1, hR _ _ hx2, fun j u hu => (hk ⟨b, _, none⟩ hb).trans (hx3 j u hu)⟩
theorem SlR.below (h : SlR w B size R v l) (hb : Below B w w') : SlR w' B size R v l := h.keep (fun _ hp => hb.cell hp) (fun _ _ r => r) zL
theorem SlR.more (h : SlR w B size R v l) (hB : B ≤ B') : SlR w B' size R v l := h.keep (fun _ _ => rfl) (fun _ _ r => r) hB
theorem SlR.imp (h : SlR w B size R v l) (hR : ∀ x y, R x y → R' x y) : SlR w B size R' v l := h.keep (fun _ _ => rfl) hR zL
theorem SlR.form (h : SlR w B size R v l) : ∃ (a : Option Addr) (c : Nat), v = .slice a l.length c ∧ l.length ≤ c ∧ c ≤ maxLen := by
  obtain ⟨a, c, h0, h1, h2, _⟩ := h
  exact ⟨a, c, h0, h1, h2⟩
theorem SlR.at_ {k : Nat} {y : α} {a : Option Addr} {n c : Nat} (h : SlR w B size R (.slice a n c) l) (hy : l[k]? = some y) :
    ∃ b off x, a = some ⟨b, off, none⟩ ∧ b < B ∧ x.length = size ∧ R x y ∧ ∀ (j : Nat) (u : Value), x[j]? = some u → w.cell? ⟨b, off + k * size + j, none⟩ = some u := by
  obtain ⟨a', c', hv, h1, h2, h3⟩ := h
  have hl : k < l.length := (List.getElem?_eq_some_iff.1 hy).1
  obtain ⟨b, off, ha, hb, hc⟩ := h3 (by omega)
  obtain ⟨x, hx⟩ := hc k y hy
  injection hv with e1 e2 e3
  exact ⟨b, off, x, e1.trans ha, hb, hx.1, hx.2.1, hx.2.2⟩
theorem SlR.len {a : Option Addr} {n c : Nat} (h : SlR w B size R (.slice a n c) l) : n = l.length := by
  obtain ⟨_, _, hv, _⟩ := h
  injection hv
theorem SlR.caps {a : Option Addr} {n c : Nat} (h : SlR w B size R (.slice a n c) l) : n ≤ c ∧ c ≤ maxLen := by
  obtain ⟨_, _, hv, h1, h2, _⟩ := h
  injection hv with _ e2 e3
  subst e2 e3
  exact ⟨h1, h2⟩
end
theorem list_of_forall {α : Type} {P : Nat → α → Prop} : ∀ n : Nat, (∀ i, i < n → ∃ d, P i d) → ∃ l : List α, l.length = n ∧ ∀ i d, l[i]? = some d → P i d
  | 0, _ => ⟨[], rfl, fun i d h => by simp at h⟩
  | n + 1, h => by
    obtain ⟨l, hl, hp⟩ := list_of_forall n (fun i hi => h i (by omega))
    obtain ⟨d, hd⟩ := h n (by omega)
    refine ⟨l ++ [d], by simp [hl], fun i e he => ?_⟩
    rcases Nat.lt_trichotomy i n with hi | hi | hi
    · rw [List.getElem?_append_left (by omega)] at he
      exact hp i e he
    · subst hi
      rw [List.getElem?_append_right (by omega), hl] at he
      simp at he
      subst he
      exact hd
    · rw [List.getElem?_eq_none (by simp; omega)] at he
      cases he
section
variable {H : Type} {enc : TypeId × Value → H} {P : Program} {w : World} {base : Nat} {spare : Nat → Bool} {held : Bool}
theorem cell_lt {w : World} {p : Addr} {u : Value} (h : w.cell? p = some u) : p.block < w.heap.size := by
  rcases Nat.lt_or_ge p.block w.heap.size with hlt | hge
  · exact hlt
  · rw [World.cell?, Array.getElem?_eq_none hge] at h
    cases h
end
theorem toList_inj (a b : ByteArray) : a.toList = b.toList ↔ a = b := by
  rw [ByteArray.toList_eq, ByteArray.toList_eq]
  constructor
  · intro h
    obtain ⟨⟨x⟩⟩ := a
    obtain ⟨⟨y⟩⟩ := b
    simp at h
    simp [h]
  · intro h; rw [h]
def eqBy {α β : Type} (p : α → β → Bool) : List α → List β → Bool
  | [], [] => true
  | a :: l, b :: m => p a b && eqBy p l m
  | _, _ => false
theorem eqBy_len {α β : Type} (p : α → β → Bool) : ∀ (l : List α) (m : List β), l.length ≠ m.length → eqBy p l m = false
  | [], [], h => absurd rfl h
  | a :: l, b :: m, h => by
    have : l.length ≠ m.length := fun e => h (by simp [e])
    simp [eqBy, eqBy_len p l m this]
  | [], _ :: _, _ => rfl
  | _ :: _, [], _ => rfl
theorem eqBy_no {α β : Type} (p : α → β → Bool) : ∀ (l : List α) (m : List β) (k : Nat) (y : α) (z : β), l[k]? = some y → m[k]? = some z → p y z = false → eqBy p l m = false
  | [], _, k, y, z, h, _, _ => by simp at h
  | _ :: _, [], k, y, z, _, h, _ => by simp at h
  | a :: l, b :: m, 0, y, z, h, h', hp => by
    simp at h h'
    subst h h'
    simp [eqBy, hp]
  | a :: l, b :: m, k + 1, y, z, h, h', hp => by
    simp at h h'
    simp [eqBy, eqBy_no p l m k y z h h' hp]
theorem eqBy_yes {α β : Type} (p : α → β → Bool) : ∀ (l : List α) (m : List β), l.length = m.length → (∀ i y z, i < l.length → l[i]? = some y → m[i]? = some z → p y z = true) → eqBy p l m = true
  | [], [], _, _ => rfl
  | a :: l, b :: m, h, hp => by
    have h0 := hp 0 a b (by simp) rfl rfl
    have h1 := eqBy_yes p l m (by simpa using h) (fun i y z hi hy hz => hp (i + 1) y z (by simpa using hi) (by simpa using hy) (by simpa using hz))
    simp [eqBy, h0, h1]
  | [], _ :: _, h, _ => by simp at h
  | _ :: _, [], h, _ => by simp at h
theorem eqBy_eq {α : Type} [DecidableEq α] : ∀ (l m : List α), eqBy (fun a b => decide (a = b)) l m = decide (l = m)
  | [], [] => by simp [eqBy]
  | a :: l, b :: m => by
    simp only [eqBy, eqBy_eq l m, List.cons.injEq]
    by_cases h : a = b <;> by_cases h' : l = m <;> simp [h, h']
  | [], _ :: _ => by simp [eqBy]
  | _ :: _, [] => by simp [eqBy]
theorem so_far {α β : Type} {p : α → β → Bool} {l : List α} {m : List β} {k : Nat} {y : α} {z : β} (hy : l[k]? = some y) (hz : m[k]? = some z) (hp : p y z = true)
    (h : ∀ i y z, i < k → l[i]? = some y → m[i]? = some z → p y z = true) : ∀ i y z, i < k + 1 → l[i]? = some y → m[i]? = some z → p y z = true := by
  intro i y' z' hi h1 h2
  by_cases e : i = k
  · subst e
    rw [hy] at h1; rw [hz] at h2
    injection h1 with h1; injection h2 with h2
    subst h1 h2
    exact hp
  · exact h i y' z' (by omega) h1 h2
theorem so_far1 {α : Type} {p : α → Bool} {b : Bool} {l : List α} {k : Nat} {y : α} (hy : l[k]? = some y) (hp : p y = b)
    (h : ∀ i y, i < k → l[i]? = some y → p y = b) : ∀ i y, i < k + 1 → l[i]? = some y → p y = b := by
  intro i y' hi h1
  by_cases e : i = k
  · subst e
    rw [hy] at h1
    injection h1 with h1
    subst h1
    exact hp
  · exact h i y' (by omega) h1
theorem get_some {α : Type} {l : List α} {k n : Nat} (hl : l.length = n) (h : k < n) : ∃ d, l[k]? = some d := ⟨_, List.getElem?_eq_getElem (by rw [hl]; exact h)⟩
theorem below_drewN {B : Nat} {a w : World} (h : Below B a w) (n : Nat) : Below B a (w.drewN n) := ⟨h.os, h.tape, h.output, h.size, h.block⟩
def Quiet (w w' : World) : Prop := ∃ n, w' = w.drewN n
theorem Quiet.refl (w : World) : Quiet w w := ⟨0, rfl⟩
theorem Quiet.drewN {a w : World} (h : Quiet a w) (n : Nat) : Quiet a (w.drewN n) := by
  obtain ⟨k, rfl⟩ := h
  exact ⟨k + n, by rw [World.drewN_drewN]⟩
theorem Quiet.trans {a b c : World} (h : Quiet a b) (k : Quiet b c) : Quiet a c := by
  obtain ⟨n, rfl⟩ := k
  exact h.drewN n
theorem Quiet.below {a w : World} (h : Quiet a w) (B : Nat) : Below B a w := by
  obtain ⟨n, rfl⟩ := h
  exact below_drewN zB n
theorem SlR.form' {α : Type} {w : World} {B size : Nat} {R : List Value → α → Prop} {v : Value} {l : List α} (h : SlR w B size R v l) : ∃ (a : Option Addr) (n c : Nat), v = .slice a n c := by
  obtain ⟨a, c, h0, _⟩ := h
  exact ⟨a, _, c, h0⟩
theorem below2 {B : Nat} {w : World} {o : Obj} (h : B ≤ w.heap.size) : B ≤ (w.alloc o).heap.size := by simp; omega
theorem below3 {B : Nat} {w : World} {o o' : Obj} (h : B ≤ w.heap.size) : B ≤ ((w.alloc o).alloc o').heap.size := by simp; omega
theorem len1 {x : List Value} (h : x.length = 1) : ∃ u0, x = [u0] := by
  match x, h with
  | [u0], _ => exact ⟨_, rfl⟩
theorem len4 {x : List Value} (h : x.length = 4) : ∃ u0 u1 u2 u3, x = [u0, u1, u2, u3] := by
  match x, h with
  | [u0, u1, u2, u3], _ => exact ⟨_, _, _, _, rfl⟩
end Go.Proofs.YtdkoafmgenbkbaaGreatDoor
namespace Go.Proofs.YtdkoafmgenbkbaaGreatDoor
open Go.RowKit
def FlatR {α : Type} (size : Nat) (R : List Value → α → Prop) (xs : List Value) (l : List α) : Prop :=
  xs.length = l.length * size ∧ ∀ (i : Nat) (y : α), l[i]? = some y → R ((xs.drop (i * size)).take size) y
theorem FlatR.nil_ {α : Type} {size : Nat} {R : List Value → α → Prop} : FlatR size R [] ([] : List α) := ⟨by simp, fun i y h => by simp at h⟩
theorem FlatR.app {α : Type} {size : Nat} {R : List Value → α → Prop} {xs ys : List Value} {l m : List α} (h : FlatR size R xs l) (k : FlatR size R ys m) : FlatR size R (xs ++ ys) (l ++ m) := by
  refine ⟨by rw [List.length_append, h.1, k.1, List.length_append, Nat.add_mul], fun i y hy => ?_⟩
  rcases Nat.lt_or_ge i l.length with hi | hi
  · rw [List.getElem?_append_left hi] at hy
    have hle : i * size + size ≤ xs.length := by
      rw [h.1]
      calc i * size + size = (i + 1) * size := by rw [Nat.succ_mul]
        _ ≤ l.length * size := Nat.mul_le_mul_right _ hi
    rw [List.drop_append_of_le_length (by omega), List.take_append_of_le_length (by rw [List.length_drop]; omega)]
    exact h.2 i y hy
  · rw [List.getElem?_append_right hi] at hy
    have e : (xs ++ ys).drop (i * size) = ys.drop ((i - l.length) * size) := by
      have : i * size = xs.length + (i - l.length) * size := by rw [h.1, ← Nat.add_mul]; congr 1; omega
      rw [this, List.drop_append, List.drop_of_length_le (by omega), Nat.add_sub_cancel_left, List.nil_append]
    rw [e]
    exact k.2 _ y hy
theorem FlatR.one {α : Type} {size : Nat} {R : List Value → α → Prop} {xs : List Value} {y : α} (hl : xs.length = size) (h : R xs y) : FlatR size R xs [y] := by
  refine ⟨by simp [hl], fun i z hz => ?_⟩
  rcases i with _ | i
  · simp at hz
    subst hz
    rw [Nat.zero_mul, List.drop_zero, List.take_of_length_le (by omega)]
    exact h
  · simp at hz
theorem FlatR.imp {α : Type} {size : Nat} {R R' : List Value → α → Prop} {xs : List Value} {l : List α} (h : FlatR size R xs l) (hR : ∀ x y, R x y → R' x y) : FlatR size R' xs l := ⟨h.1, fun i y hy => hR _ _ (h.2 i y hy)⟩
def Own1 {α : Type} (w : World) (base : Nat) (e : TypeId) (size : Nat) (R : List Value → α → Prop) (v : Value) (l : List α) : Prop :=
  ∃ xs, w.ownsRow base e size v l.length xs ∧ FlatR size R xs l
section
variable {α : Type} {w w' : World} {base size : Nat} {e : TypeId} {R R' : List Value → α → Prop} {v : Value} {l : List α}
theorem Own1.alloc (h : Own1 w base e size R v l) (o : Obj) : Own1 (w.alloc o) base e size R v l := by
  obtain ⟨xs, h1, h2⟩ := h
  exact ⟨xs, h1.alloc o, h2⟩
theorem Own1.drew (h : Own1 w base e size R v l) : Own1 w.drew base e size R v l := h
theorem Own1.drewN (h : Own1 w base e size R v l) (n : Nat) : Own1 (w.drewN n) base e size R v l := h
theorem Own1.imp (h : Own1 w base e size R v l) (hR : ∀ x y, R x y → R' x y) : Own1 w base e size R' v l := by
  obtain ⟨xs, h1, h2⟩ := h
  exact ⟨xs, h1, h2.imp hR⟩
theorem Own1.mono {base' : Nat} (h : Own1 w base e size R v l) (hb : base' ≤ base) : Own1 w base' e size R v l := by
  obtain ⟨xs, ⟨h0, h1⟩, h2⟩ := h
  refine ⟨xs, ⟨h0, ?_⟩, h2⟩
  rcases h1 with h1 | ⟨g, cap, cur, r1, r2, r3⟩
  · exact .inl h1
  · exact .inr ⟨g, cap, cur, r1, by omega, r3⟩
theorem Own1.kept {base' size' n' : Nat} {e' : TypeId} {v' : Value} {xs' : List Value} (h : Own1 w base e size R v l) (h' : w.ownsRow base' e' size' v' n' xs') (hne : e ≠ e') (hg : w.grownBy w' v'.ownBlock) : Own1 w' base e size R v l := by
  obtain ⟨xs, h1, h2⟩ := h
  refine ⟨xs, h1.kept hg ?_, h2⟩
  rcases h1.2 with ⟨rfl, _⟩ | ⟨g, cap, cur, rfl, _, hh, _⟩
  · exact .inl rfl
  · refine .inr ?_
    rcases h'.2 with ⟨rfl, _⟩ | ⟨g', cap', cur', rfl, _, hh', _⟩
    · simp [Value.ownBlock]
    · intro he
      simp [Value.ownBlock] at he
      subst he
      rw [hh] at hh'
      injection hh' with hh'
      injection hh' with _ ht
      exact hne ht
theorem Own1.below {B : Nat} (h : Own1 w base e size R v l) (hb : Below B w w') (hB : w.heap.size ≤ B) : Own1 w' base e size R v l := by
  obtain ⟨xs, h1, h2⟩ := h
  refine ⟨xs, ⟨h1.1, ?_⟩, h2⟩
  rcases h1.2 with r | ⟨g, cap, cur, r1, r2, r3, r4⟩
  · exact .inl r
  · have hg : g < w.heap.size := by
      rcases Nat.lt_or_ge g w.heap.size with hlt | hge
      · exact hlt
      · rw [Array.getElem?_eq_none hge] at r3; cases r3
    exact .inr ⟨g, cap, cur, r1, r2, (hb.block g (by omega)).trans r3, r4⟩
theorem Own1.read (h : Own1 w base e size R v l) (hs : 0 < size) : SlR w w.heap.size size R v l := by
  obtain ⟨xs, h1, h2⟩ := h
  rcases h1.2 with ⟨rfl, h0⟩ | ⟨g, cap, cur, rfl, hg, hh, hn, hc, hsz, hxs⟩
  · have : l = [] := List.eq_nil_of_length_eq_zero h0
    subst this
    exact SlR.nil_ _ (by unfold maxLen; omega) _
  · refine ⟨_, cap, rfl, hn, hc, fun hl => ⟨g, 0, rfl, ?_, fun i y hy => ⟨_, ?_, h2.2 i y hy, fun j u hu => ?_⟩⟩⟩
    · rcases Nat.lt_or_ge g w.heap.size with hlt | hge
      · exact hlt
      · rw [Array.getElem?_eq_none hge] at hh; cases hh
    · have hi : i < l.length := (List.getElem?_eq_some_iff.1 hy).1
      have : i * size + size ≤ xs.length := by
        rw [h1.1]
        calc i * size + size = (i + 1) * size := by rw [Nat.succ_mul]
          _ ≤ l.length * size := Nat.mul_le_mul_right _ hi
      rw [List.length_take, List.length_drop]
      omega
    · have hj : j < size := by
        have := (List.getElem?_eq_some_iff.1 hu).1
        rw [List.length_take] at this
        omega
      have hx : xs[i * size + j]? = some u := by
        rw [List.getElem?_take_of_lt hj, List.getElem?_drop] at hu
        exact hu
      have := h1.cells (g := g) rfl _ _ hx
      have e' : ((⟨g, 0, none⟩ : Addr).add (i * size + j)) = ⟨g, 0 + i * size + j, none⟩ := by
        unfold Addr.add
        split
        · rename_i h0
          rw [Nat.zero_add, h0]
        · rw [Nat.zero_add, Nat.zero_add]
      rwa [e'] at this
theorem SlR.flat {B : Nat} {a : Option Addr} {n c : Nat} (h : SlR w B size R (.slice a n c) l) : ∃ news, FlatR size R news l ∧ (a = none → n = 0) ∧ (∀ ad, a = some ad → 0 < n → ∀ j u, news[j]? = some u → w.cell? (ad.add j) = some u) := by
  obtain ⟨a', c', hv, h1, h2, h3⟩ := h
  injection hv with e1 e2 e3
  subst e1 e2 e3
  rcases Nat.eq_zero_or_pos l.length with h0 | h0
  · have : l = [] := List.eq_nil_of_length_eq_zero h0
    subst this
    exact ⟨[], FlatR.nil_, fun _ => rfl, fun ad _ hn => absurd hn (by simp)⟩
  · obtain ⟨b, off, rfl, hb, hc⟩ := h3 h0
    have key : ∀ m, m ≤ l.length → ∃ news, FlatR size R news (l.take m) ∧ ∀ j u, news[j]? = some u → w.cell? ⟨b, off + j, none⟩ = some u := by
      intro m
      induction m with
      | zero => exact fun _ => ⟨[], by simpa using FlatR.nil_, fun j u hu => by simp at hu⟩
      | succ m ih =>
        intro hm
        obtain ⟨news, hf, hcell⟩ := ih (by omega)
        have hy : l[m]? = some l[m] := List.getElem?_eq_getElem (by omega)
        obtain ⟨x, hx1, hx2, hx3⟩ := hc m _ hy
        refine ⟨news ++ x, ?_, fun j u hu => ?_⟩
        · rw [List.take_succ_eq_append_getElem (by omega)]
          exact hf.app (FlatR.one hx1 hx2)
        · have hln : news.length = m * size := by rw [hf.1, List.length_take, Nat.min_eq_left (by omega)]
          rcases Nat.lt_or_ge j news.length with hj | hj
          · rw [List.getElem?_append_left hj] at hu
            exact hcell j u hu
          · rw [List.getElem?_append_right hj] at hu
            have := hx3 _ u hu
            have e : off + m * size + (j - news.length) = off + j := by omega
            rwa [e] at this
    obtain ⟨news, hf, hcell⟩ := key l.length zL
    rw [List.take_length] at hf
    refine ⟨news, hf, (fun h => by cases h), fun ad had hn j u hu => ?_⟩
    injection had with had
    subst had
    have := hcell j u hu
    have e : ((⟨b, off, none⟩ : Addr).add j) = ⟨b, off + j, none⟩ := by
      unfold Addr.add
      split
      · rename_i h0
        rw [h0, Nat.add_zero]
      · rfl
    rw [e]
    exact this
end
theorem Own1.empty {α : Type} {w : World} {base size g : Nat} {e : TypeId} {R : List Value → α → Prop} (hg : g = w.heap.size) (hb : base ≤ w.heap.size) : Own1 (w.alloc (.cells #[] e)) base e size R (.slice (some ⟨g, 0, none⟩) 0 0) ([] : List α) := by
  subst hg
  refine ⟨[], ⟨by simp, .inr ⟨w.heap.size, 0, #[], rfl, hb, heap_alloc_new w _, by simp, by simp [maxLen], by simp, by simp⟩⟩, FlatR.nil_⟩
theorem Own1.setFar {α : Type} {w : World} {base size : Nat} {e : TypeId} {R : List Value → α → Prop} {v : Value} {l : List α} (h : Own1 w base e size R v l) {p : Addr} (hp : p.block < base) (u : Value) : Own1 (w.setCell p u) base e size R v l := by
  obtain ⟨xs, h1, h2⟩ := h
  exact ⟨xs, ownsRow_setCell_below h1 hp u, h2⟩
theorem Own1.form {α : Type} {w : World} {base size : Nat} {e : TypeId} {R : List Value → α → Prop} {v : Value} {l : List α} (h : Own1 w base e size R v l) : ∃ a c, v = .slice a l.length c := by
  obtain ⟨xs, h1, _⟩ := h
  rcases h1.2 with ⟨rfl, h0⟩ | ⟨g, cap, cur, rfl, _⟩
  · exact ⟨_, _, by rw [h0]⟩
  · exact ⟨_, _, rfl⟩
theorem Own1.block {α : Type} {w : World} {base size : Nat} {e : TypeId} {R : List Value → α → Prop} {v : Value} {l : List α} (h : Own1 w base e size R v l) : ∀ k, v.ownBlock = some k → base ≤ k ∧ k < w.heap.size := by
  obtain ⟨xs, h1, _⟩ := h
  exact h1.lt
theorem Own1.kept1 {α β : Type} {w w' : World} {base size base' size' : Nat} {e e' : TypeId} {R : List Value → α → Prop} {R' : List Value → β → Prop} {v v' : Value} {l : List α} {l' : List β} (h : Own1 w base e size R v l) (h' : Own1 w base' e' size' R' v' l') (hne : e ≠ e') (hg : w.grownBy w' v'.ownBlock) : Own1 w' base e size R v l := by
  obtain ⟨xs, h1, _⟩ := h'
  exact h.kept h1 hne hg
theorem SlR.new1 {α : Type} {w : World} {size : Nat} {e : TypeId} {R : List Value → α → Prop} {x : List Value} {y : α} {g : Nat} (hg : g = w.heap.size) (hl : x.length = size) (hR : R x y) : SlR (w.alloc (.cells x.toArray e)) (w.heap.size + 1) size R (.slice (some ⟨g, 0, none⟩) 1 1) [y] := by
  subst hg
  refine ⟨some ⟨w.heap.size, 0, none⟩, 1, rfl, Nat.le_refl _, by unfold maxLen; omega, fun _ => ⟨w.heap.size, 0, rfl, by omega, fun i z hz => ?_⟩⟩
  rcases i with _ | i
  · simp at hz
    subst hz
    refine ⟨x, hl, hR, fun j u hu => ?_⟩
    have : (w.alloc (.cells x.toArray e)).heap[w.heap.size]? = some (.cells x.toArray e (0, 0)) := heap_alloc_new w _
    rw [World.cell?]
    show (match (w.alloc (.cells x.toArray e)).heap[w.heap.size]? with | some (.cells c _ _) => _ | _ => none) = _
    rw [this]
    simpa using hu
  · simp at hz
section
variable {P : Program} {α : Type}
theorem run_append_list (w : World) (base B : Nat) (t ty e : TypeId) (i : TypeInfo) (z : Value) (size bytes : Nat) (ht : P.underlying t = some (.slice e)) (hi : P.info? e = some i) (hz : i.zero = some z)
    (hsize : i.size = size) (hby : i.bytes = bytes) (hzs : z.cells.size = size) (hsz : 0 < size) {R : List Value → α → Prop} {l m : List α}
    (v : Value) (hown : Own1 w base e size R v l) (A : Option Addr) (n c : Nat) (hsrc : SlR w B size R (.slice A n c) m)
    (h1 : ∀ x y, R x y → ∀ u ∈ x, u.oneCell' = true) (h63 : l.length + n ≤ maxLen) (hbytes : (l.length + n) * bytes ≤ 140737488355328) (hbase : base ≤ w.heap.size) :
    ∃ v' w', (Builtin.append_ #[t, t] ty #[v, .slice A n c]).run P w = .ok v' w' ∧ Own1 w' base e size R v' (l ++ m) ∧ w.grownBy w' v.ownBlock ∧ (v'.ownBlock = v.ownBlock ∨ v'.ownBlock = some w.heap.size) := by
  obtain ⟨news, hf, hnone, hcell⟩ := hsrc.flat
  have hn : n = m.length := hsrc.len
  obtain ⟨xs, hx, hxf⟩ := hown
  have hone : ∀ u ∈ news, u.oneCell' = true := by
    intro u hu
    obtain ⟨k, hk⟩ := List.mem_iff_getElem?.1 hu
    have hkl : k < news.length := (List.getElem?_eq_some_iff.1 hk).1
    have hkm : k / size < m.length := by rw [hf.1] at hkl; exact Nat.div_lt_of_lt_mul (by rwa [Nat.mul_comm])
    refine h1 _ _ (hf.2 (k / size) _ (List.getElem?_eq_getElem hkm)) u ?_
    refine List.mem_iff_getElem?.2 ⟨k % size, ?_⟩
    rw [List.getElem?_take_of_lt (Nat.mod_lt _ hsz), List.getElem?_drop, Nat.mul_comm, Nat.div_add_mod, hk]
  rcases A with _ | ad
  · have h0 := hnone rfl
    have hm : m = [] := List.eq_nil_of_length_eq_zero (by omega)
    subst hm
    subst h0
    refine ⟨v, w, ?_, ⟨xs, by simpa using hx, by simpa using hxf⟩, World.grownBy.refl w _, .inl rfl⟩
    rcases hx.2 with ⟨rfl, h0'⟩ | ⟨g, cap, cur, rfl, _, _, hnc, _⟩
    · simp [Builtin.append_, run_underlying ht, sizeOf, typeInfo, hi, Builtin.lenOf, Builtin.firstCells]
    · simp [Builtin.append_, run_underlying ht, sizeOf, typeInfo, hi, Builtin.lenOf, Builtin.firstCells, hnc, storeCells]
  · have hcells : ∀ j u, news[j]? = some u → w.cell? (ad.add j) = some u := by
      intro j u hu
      rcases Nat.eq_zero_or_pos n with h0 | h0
      · have hl0 : news.length = 0 := by rw [hf.1, ← hn, h0, Nat.zero_mul]
        have : news = [] := List.eq_nil_of_length_eq_zero hl0
        subst this
        simp at hu
      · exact hcell ad rfl h0 j u hu
    obtain ⟨v', w', hrun, h2, h3, _, h5⟩ := run_append_own_at (P := P) w base t ty e i z size bytes ht hi hz hsize hby hzs hsz v l.length xs hx ad n c news (by rw [hf.1, hn]) hcells hone h63 hbytes hbase
    exact ⟨v', w', hrun, ⟨xs ++ news, by rw [List.length_append, ← hn]; exact h2, hxf.app hf⟩, h3, h5⟩
theorem wpList_append_list {ops : Array Oper} {rest : List Oper} {o : Oper} {a : Act} {Q : Exit → Act → World → Prop} {w : World} (hgd : o.guard = none) (s x : Operand) (t : TypeId)
    (ho : o.op = .call { callee := .builtin .append, args := #[s, x], argTypes := #[t, t] })
    (base B : Nat) (e : TypeId) (i : TypeInfo) (z : Value) (size bytes : Nat) (ht : P.underlying t = some (.slice e)) (hi : P.info? e = some i) (hz : i.zero = some z)
    (hsize : i.size = size) (hby : i.bytes = bytes) (hzs : z.cells.size = size) (hsz : 0 < size) {R : List Value → α → Prop} {l m : List α}
    (v : Value) (hs : a.eval s = v) (hown : Own1 w base e size R v l) (A : Option Addr) (n c : Nat) (hx : a.eval x = .slice A n c) (hsrc : SlR w B size R (.slice A n c) m)
    (N : Nat) (hN : N = l.length + n) (h1 : ∀ x y, R x y → ∀ u ∈ x, u.oneCell' = true) (h63 : l.length + n ≤ maxLen) (hbytes : (l.length + n) * bytes ≤ 140737488355328) (hbase : base ≤ w.heap.size)
    (h : ∀ (a' : Option Addr) (c' : Nat) w', Own1 w' base e size R (.slice a' N c') (l ++ m) → w.grownBy w' v.ownBlock → wpList P ops Q rest (a.put o.dst (.slice a' N c')) w') : wpList P ops Q (o :: rest) a w := by
  refine wpList_plain hgd fun K hK => ?_
  obtain ⟨v', w', hrun, h2, h3, _⟩ := run_append_list (P := P) w base B t o.type e i z size bytes ht hi hz hsize hby hzs hsz v hown A n c hsrc h1 h63 hbytes hbase
  unfold Oper.wp execOp
  simp only [ho, resolve, invoke, builtin, Sem.run_bind, Sem.run_pure, Result.andThen_ok, List.map_toArray, List.map_cons, List.map_nil, hs, hx, hrun]
  obtain ⟨a', c', rfl⟩ := h2.form
  have e : (l ++ m).length = N := by rw [hN, List.length_append, hsrc.len]
  rw [e] at h2 ⊢
  exact hK _ _ (h a' c' w' h2 h3)
theorem step_append_list {ops : Array Oper} {o : Oper} {a : Act} {K : Act → World → Prop} {Q : Exit → Act → World → Prop} {E : Prop} {w : World} (hgd : o.guard = none) (s x : Operand) (t : TypeId)
    (ho : o.op = .call { callee := .builtin .append, args := #[s, x], argTypes := #[t, t] })
    (base B : Nat) (e : TypeId) (i : TypeInfo) (z : Value) (size bytes : Nat) (ht : P.underlying t = some (.slice e)) (hi : P.info? e = some i) (hz : i.zero = some z)
    (hsize : i.size = size) (hby : i.bytes = bytes) (hzs : z.cells.size = size) (hsz : 0 < size) {R : List Value → α → Prop} {l m : List α}
    (v : Value) (hs : a.eval s = v) (hown : Own1 w base e size R v l) (A : Option Addr) (n c : Nat) (hx : a.eval x = .slice A n c) (hsrc : SlR w B size R (.slice A n c) m)
    (N : Nat) (hN : N = l.length + n) (h1 : ∀ x y, R x y → ∀ u ∈ x, u.oneCell' = true) (h63 : l.length + n ≤ maxLen) (hbytes : (l.length + n) * bytes ≤ 140737488355328) (hbase : base ≤ w.heap.size)
    (h : ∀ (a' : Option Addr) (c' : Nat) w', Own1 w' base e size R (.slice a' N c') (l ++ m) → w.grownBy w' v.ownBlock → K (a.put o.dst (.slice a' N c')) w') : if Region.wanted o (yielded ops a.tmps) = true then Oper.wp P o a w K Q else E := by
  rw [if_pos (by simp [Region.wanted, hgd])]
  obtain ⟨v', w', hrun, h2, h3, _⟩ := run_append_list (P := P) w base B t o.type e i z size bytes ht hi hz hsize hby hzs hsz v hown A n c hsrc h1 h63 hbytes hbase
  unfold Oper.wp execOp
  simp only [ho, resolve, invoke, builtin, Sem.run_bind, Sem.run_pure, Result.andThen_ok, List.map_toArray, List.map_cons, List.map_nil, hs, hx, hrun]
  obtain ⟨a', c', rfl⟩ := h2.form
  have e : (l ++ m).length = N := by rw [hN, List.length_append, hsrc.len]
  rw [e] at h2 ⊢
  exact h a' c' w' h2 h3
end
def Blk (w : World) (g : Nat) (t : TypeId) (cs : Array Value) : Prop := w.heap[g]? = some (.cells cs t (0, 0))
theorem Blk.lt {w : World} {g : Nat} {t : TypeId} {cs : Array Value} (h : Blk w g t cs) : g < w.heap.size := by
  rcases Nat.lt_or_ge g w.heap.size with hlt | hge
  · exact hlt
  · unfold Blk at h; rw [Array.getElem?_eq_none hge] at h; cases h
theorem Blk.cell {w : World} {g : Nat} {t : TypeId} {cs : Array Value} (h : Blk w g t cs) {i : Nat} {u : Value} (hi : cs[i]? = some u) : w.cell? ⟨g, i, none⟩ = some u := by
  unfold Blk at h
  simp [World.cell?, h, hi]
theorem Blk.frozen {w : World} {g : Nat} {t : TypeId} {cs : Array Value} (h : Blk w g t cs) (i : Nat) : w.frozen? ⟨g, i, none⟩ = false := by
  unfold Blk at h
  simp [World.frozen?, h]
theorem Blk.f4 {w : World} {b : Nat} {t : TypeId} {cs : Array Value} (h : Blk w b t cs) : w.frozen? ⟨b, 0, none⟩ = false ∧ w.frozen? ⟨b, 1, none⟩ = false ∧ w.frozen? ⟨b, 2, none⟩ = false ∧ w.frozen? ⟨b, 3, none⟩ = false := ⟨h.frozen 0, h.frozen 1, h.frozen 2, h.frozen 3⟩
theorem Blk.k2 {w : World} {b : Nat} {t : TypeId} {x0 x1 : Value} (h : Blk w b t #[x0, x1]) : w.cell? ⟨b, 0, none⟩ = some x0 ∧ w.cell? ⟨b, 1, none⟩ = some x1 := ⟨h.cell rfl, h.cell rfl⟩
theorem Blk.k3 {w : World} {b : Nat} {t : TypeId} {x0 x1 x2 : Value} (h : Blk w b t #[x0, x1, x2]) : w.cell? ⟨b, 0, none⟩ = some x0 ∧ w.cell? ⟨b, 1, none⟩ = some x1 ∧ w.cell? ⟨b, 2, none⟩ = some x2 := ⟨h.cell rfl, h.cell rfl, h.cell rfl⟩
theorem Blk.k4 {w : World} {b : Nat} {t : TypeId} {x0 x1 x2 x3 : Value} (h : Blk w b t #[x0, x1, x2, x3]) : w.cell? ⟨b, 0, none⟩ = some x0 ∧ w.cell? ⟨b, 1, none⟩ = some x1 ∧ w.cell? ⟨b, 2, none⟩ = some x2 ∧ w.cell? ⟨b, 3, none⟩ = some x3 := ⟨h.cell rfl, h.cell rfl, h.cell rfl, h.cell rfl⟩
theorem Blk.keep {w w' : World} {g : Nat} {t : TypeId} {cs : Array Value} (h : Blk w g t cs) (hk : w'.heap[g]? = w.heap[g]?) : Blk w' g t cs := hk.trans h
theorem Blk.below {w w' : World} {g B : Nat} {t : TypeId} {cs : Array Value} (h : Blk w g t cs) (hb : Below B w w') (hg : g < B) : Blk w' g t cs := (hb.block g hg).trans h
theorem Blk.grown {w w' : World} {g : Nat} {t : TypeId} {cs : Array Value} {row : Option Nat} (h : Blk w g t cs) (hb : w.grownBy w' row) (hg : some g ≠ row) : Blk w' g t cs := (hb.block g h.lt hg).trans h
theorem Blk.alloc {w : World} {g : Nat} {t : TypeId} {cs : Array Value} (h : Blk w g t cs) (o : Obj) : Blk (w.alloc o) g t cs := (Below.heap_alloc w o g h.lt).trans h
theorem Blk.new (w : World) (t : TypeId) (cs : Array Value) : Blk (w.alloc (.cells cs t)) w.heap.size t cs := heap_alloc_new w _
theorem Blk.new_ {w : World} {g : Nat} (hg : g = w.heap.size) (t : TypeId) (cs : Array Value) : Blk (w.alloc (.cells cs t)) g t cs := by subst hg; exact heap_alloc_new w _
theorem Blk.set_ {w : World} {g : Nat} {t : TypeId} {cs : Array Value} (h : Blk w g t cs) (i : Nat) (u : Value) : Blk (w.setCell ⟨g, i, none⟩ u) g t (cs.setIfInBounds i u) := by
  unfold Blk at h ⊢
  simp [World.setCell, Array.getElem?_modify, h]
theorem Blk.far {w : World} {g : Nat} {t : TypeId} {cs : Array Value} (h : Blk w g t cs) {p : Addr} (hp : g ≠ p.block) (u : Value) : Blk (w.setCell p u) g t cs := (Below.heap_setCell w p u g hp).trans h
end Go.Proofs.YtdkoafmgenbkbaaGreatDoor
namespace Go.Proofs.YtdkoafmgenbkbaaGreatDoor
open Go.RowKit
theorem Own1.apart {α : Type} {w w' : World} {base size : Nat} {e : TypeId} {R : List Value → α → Prop} {v : Value} {l : List α} {b : Option Nat} (h : Own1 w base e size R v l) (hg : w.grownBy w' b) (hne : ∀ g, v.ownBlock = some g → some g ≠ b) : Own1 w' base e size R v l := by
  obtain ⟨xs, ⟨h1, h2⟩, h3⟩ := h
  refine ⟨xs, ⟨h1, ?_⟩, h3⟩
  rcases h2 with h2 | ⟨g, cap, cur, r1, r2, r3, r4⟩
  · exact .inl h2
  · refine .inr ⟨g, cap, cur, r1, r2, ?_, r4⟩
    have hlt : g < w.heap.size := by
      rcases Nat.lt_or_ge g w.heap.size with hlt | hge
      · exact hlt
      · rw [Array.getElem?_eq_none hge] at r3; cases r3
    rw [hg.block g hlt (hne g (by rw [r1]; rfl))]
    exact r3
end Go.Proofs.YtdkoafmgenbkbaaGreatDoor
namespace Go.Proofs.YtdkoafmgenbkbaaGreatDoor
open Go.RowKit
def bs (s : ByteArray) : List Nat := s.data.toList.map UInt8.toNat
def txt (l : List Nat) : ByteArray := ⟨(l.map UInt8.ofNat).toArray⟩
def Bytes (l : List Nat) : Prop := ∀ n ∈ l, n < 256
theorem bs_len (s : ByteArray) : (bs s).length = s.size := by
  unfold bs
  rw [List.length_map, Array.length_toList]
  rfl
theorem bs_at {s : ByteArray} {i : Nat} (h : i < s.size) : (bs s)[i]? = some (s[i]'h).toNat := by
  have h' : i < s.data.size := h
  have e : s[i]'h = s.data[i]'h' := rfl
  rw [e]
  unfold bs
  rw [List.getElem?_map, Array.getElem?_toList, Array.getElem?_eq_getElem h']
  rfl
theorem bs_bytes (s : ByteArray) : Bytes (bs s) := by
  intro n h
  simp only [bs, List.mem_map] at h
  obtain ⟨b, _, rfl⟩ := h
  exact b.toNat_lt
theorem txt_bs (s : ByteArray) : txt (bs s) = s := by
  obtain ⟨⟨l⟩⟩ := s
  simp [txt, bs, Function.comp_def]
theorem bs_txt {l : List Nat} (h : Bytes l) : bs (txt l) = l := by
  simp only [txt, bs, List.toList_toArray, List.map_map]
  conv => rhs; rw [← List.map_id l]
  apply List.map_congr_left
  intro n hn
  have := h n hn
  simp [Nat.mod_eq_of_lt this]
theorem bs_inj {s t : ByteArray} (h : bs s = bs t) : s = t := by rw [← txt_bs s, ← txt_bs t, h]
theorem txt_size (l : List Nat) : (txt l).size = l.length := by simp [txt, ByteArray.size]
theorem bs_extract (s : ByteArray) (i j : Nat) : bs (s.extract i j) = ((bs s).take j).drop i := by
  have : (s.extract i j).data = s.data.extract i j := ByteArray.data_extract ..
  simp [bs, this, List.extract_eq_take_drop, List.map_take, List.map_drop, List.drop_take]
theorem bytes_nil : Bytes [] := fun n h => by simp at h
theorem bytes_app {l m : List Nat} (h : Bytes l) (k : Bytes m) : Bytes (l ++ m) := fun n hn => by
  rcases List.mem_append.1 hn with h' | h'
  · exact h n h'
  · exact k n h'
def IsByte (x : List Value) (n : Nat) : Prop := x = [.int .u8 (n : Int)] ∧ n < 256
theorem IsByte.one (x : List Value) (n : Nat) (h : IsByte x n) : ∀ u ∈ x, u.oneCell' = true := by
  intro u hu
  rw [h.1] at hu
  simp at hu
  subst hu
  rfl
theorem byteRow {xs : List Value} {l : List Nat} (h : FlatR 1 IsByte xs l) : xs = l.map (fun (n : Nat) => Value.int .u8 (n : Int)) ∧ Bytes l := by
  obtain ⟨h1, h2⟩ := h
  have h1' : xs.length = l.length := by omega
  refine ⟨List.ext_getElem? fun i => ?_, fun n hn => ?_⟩
  · by_cases hi : i < l.length
    · have hy : l[i]? = some l[i] := List.getElem?_eq_getElem hi
      have := (h2 i _ hy).1
      rw [Nat.mul_one, List.drop_eq_getElem_cons (by omega), List.take_succ_cons, List.take_zero] at this
      rw [List.getElem?_eq_getElem (by omega), List.getElem?_map, hy]
      injection this with e2 _
      rw [e2]
      rfl
    · rw [List.getElem?_eq_none (by omega), List.getElem?_eq_none (by simp; omega)]
  · obtain ⟨i, hi⟩ := List.mem_iff_getElem?.1 hn
    exact (h2 i n hi).2
theorem byteRow_mk {l : List Nat} (h : Bytes l) : FlatR 1 IsByte (l.map (fun (n : Nat) => Value.int .u8 (n : Int))) l := by
  refine ⟨by simp, fun i y hy => ?_⟩
  have hi : i < l.length := (List.getElem?_eq_some_iff.1 hy).1
  have hm : i < (l.map (fun (n : Nat) => Value.int .u8 (n : Int))).length := by simpa using hi
  rw [Nat.mul_one, List.drop_eq_getElem_cons hm]
  refine ⟨by simp [(List.getElem?_eq_some_iff.1 hy).2], h y (List.mem_iff_getElem?.2 ⟨i, hy⟩)⟩
theorem strCells_eq (s : ByteArray) : Lib.strCells s = (bs s).map (fun (n : Nat) => Value.int .u8 (n : Int)) := by
  simp [Lib.strCells, bs, Function.comp_def]
section
variable {P : Program}
theorem run_text_of_row {w : World} {base : Nat} {v : Value} {l : List Nat} (src dst e : TypeId) (hs : P.underlying src = some (.slice e)) (he : P.underlying e = some (.int .u8)) (hd : P.underlying dst = some .string) (h : Own1 w base e 1 IsByte v l) :
    (convert src dst v).run P w = .ok (.string (txt l)) w := by
  obtain ⟨xs, h1, h2⟩ := h
  obtain ⟨rfl, hb⟩ := byteRow h2
  rcases h1.2 with ⟨rfl, h0⟩ | ⟨g, cap, cur, rfl, _⟩
  · have : l = [] := List.eq_nil_of_length_eq_zero h0
    subst this
    rw [run_convert_bytes_string w src dst e none 0 0 hs he hd]
    rfl
  · have hl : (l.map UInt8.ofNat).length = l.length := by simp
    have hcell := h1.cells (g := g) rfl
    have := run_convert_bytes_back (P := P) w src dst e ⟨g, 0, none⟩ cap (l.map UInt8.ofNat) hs he hd (fun j hj => by
      have hj' : j < l.length := by simpa using hj
      have hn : l[j] < 256 := hb _ (List.getElem_mem hj')
      refine hcell j _ ?_
      simp [List.getElem?_eq_getElem hj', Nat.mod_eq_of_lt hn])
    rw [hl] at this
    exact this
theorem below_of_grown {α : Type} {w w' : World} {base size : Nat} {e : TypeId} {R : List Value → α → Prop} {v : Value} {l : List α} (h : Own1 w base e size R v l) (hb : base ≤ w.heap.size) (hg : w.grownBy w' v.ownBlock) : Below base w w' :=
  (Below.refl base w).grown hg hb (fun g hg => (h.block g hg).1)
theorem wpList_append_bytes {ops : Array Oper} {rest : List Oper} {o : Oper} {a : Act} {Q : Exit → Act → World → Prop} {w : World} (hgd : o.guard = none) (s x : Operand) (t : TypeId)
    (ho : o.op = .call { callee := .builtin .append, args := #[s, x], argTypes := #[t, t] })
    (base B : Nat) (e : TypeId) (i : TypeInfo) (ht : P.underlying t = some (.slice e)) (hi : P.info? e = some i) (hz : i.zero = some (.int .u8 0)) (hsize : i.size = 1) (hby : i.bytes = 1)
    {l m : List Nat} (v : Value) (hs : a.eval s = v) (hown : Own1 w base e 1 IsByte v l) (A : Option Addr) (n c : Nat) (hx : a.eval x = .slice A n c) (hsrc : SlR w B 1 IsByte (.slice A n c) m)
    (hfit : l.length + n ≤ 140737488355328) (hbase : base ≤ w.heap.size)
    (h : ∀ (a' : Option Addr) (n' c' : Nat) w', Own1 w' base e 1 IsByte (.slice a' n' c') (l ++ m) → Below base w w' → wpList P ops Q rest (a.put o.dst (.slice a' n' c')) w') : wpList P ops Q (o :: rest) a w :=
  wpList_append_list hgd s x t ho base B e i _ 1 1 ht hi hz hsize hby rfl (by omega) v hs hown A n c hx hsrc _ rfl IsByte.one (by unfold maxLen; omega) (by omega) hbase (fun a' c' w' h1 h2 => h a' _ c' w' h1 (below_of_grown hown hbase h2))
theorem step_append_bytes {ops : Array Oper} {o : Oper} {a : Act} {K : Act → World → Prop} {Q : Exit → Act → World → Prop} {E : Prop} {w : World} (hgd : o.guard = none) (s x : Operand) (t : TypeId)
    (ho : o.op = .call { callee := .builtin .append, args := #[s, x], argTypes := #[t, t] })
    (base B : Nat) (e : TypeId) (i : TypeInfo) (ht : P.underlying t = some (.slice e)) (hi : P.info? e = some i) (hz : i.zero = some (.int .u8 0)) (hsize : i.size = 1) (hby : i.bytes = 1)
    {l m : List Nat} (v : Value) (hs : a.eval s = v) (hown : Own1 w base e 1 IsByte v l) (A : Option Addr) (n c : Nat) (hx : a.eval x = .slice A n c) (hsrc : SlR w B 1 IsByte (.slice A n c) m)
    (hfit : l.length + n ≤ 140737488355328) (hbase : base ≤ w.heap.size)
    (h : ∀ (a' : Option Addr) (n' c' : Nat) w', Own1 w' base e 1 IsByte (.slice a' n' c') (l ++ m) → Below base w w' → K (a.put o.dst (.slice a' n' c')) w') : if Region.wanted o (yielded ops a.tmps) = true then Oper.wp P o a w K Q else E :=
  step_append_list hgd s x t ho base B e i _ 1 1 ht hi hz hsize hby rfl (by omega) v hs hown A n c hx hsrc _ rfl IsByte.one (by unfold maxLen; omega) (by omega) hbase (fun a' c' w' h1 h2 => h a' _ c' w' h1 (below_of_grown hown hbase h2))
theorem own_bytes {w : World} {base g : Nat} {e : TypeId} {l : List Nat} {xs : List Value} (hg : g = w.heap.size) (hb : base ≤ w.heap.size) (hx : xs = l.map (fun (n : Nat) => Value.int .u8 (n : Int))) (hl : Bytes l) (hm : l.length ≤ maxLen) (n c : Nat) (hn : n = l.length) (hc : c = l.length) :
    Own1 (w.alloc (.cells xs.toArray e)) base e 1 IsByte (.slice (some ⟨g, 0, none⟩) n c) l := by
  subst hg hx hn hc
  refine ⟨l.map (fun (n : Nat) => Value.int .u8 (n : Int)), ⟨by simp, .inr ⟨w.heap.size, l.length, (l.map (fun (n : Nat) => Value.int .u8 (n : Int))).toArray, rfl, hb, heap_alloc_new w _, Nat.le_refl _, hm, by simp, by simp [List.take_of_length_le]⟩⟩, byteRow_mk hl⟩
theorem bytes_row {w : World} {g : Nat} {e : TypeId} {l : List Nat} {xs : List Value} (hg : g = w.heap.size) (hx : xs = l.map (fun (n : Nat) => Value.int .u8 (n : Int))) (hl : Bytes l) (hm : l.length ≤ maxLen) (n c : Nat) (hn : n = l.length) (hc : c = l.length) :
    SlR (w.alloc (.cells xs.toArray e)) (w.heap.size + 1) 1 IsByte (.slice (some ⟨g, 0, none⟩) n c) l := by
  have := (own_bytes (base := 0) hg (Nat.zero_le _) hx hl hm n c hn hc (e := e)).read (by omega)
  rw [World.size_alloc] at this
  exact this
end
end Go.Proofs.YtdkoafmgenbkbaaGreatDoor
namespace Go.Proofs.YtdkoafmgenbkbaaGreatDoor
def letterN (n : Nat) : Bool := decide ((65 ≤ n ∧ n ≤ 90) ∨ (97 ≤ n ∧ n ≤ 122))
def furtherN (n : Nat) : Bool := letterN n || decide ((48 ≤ n ∧ n ≤ 57) ∨ n = 95)
def rightN (l : List Nat) : Bool := match l with
  | [] => false
  | c :: t => decide ((c :: t).length ≤ 32) && letterN c && (c :: t).all furtherN
end Go.Proofs.YtdkoafmgenbkbaaGreatDoor
namespace Go.Proofs.YtdkoafmgenbkbaaGreatDoor
open Go.RowKit
structure Ins where
  op : Int
  arg : Int
  int : Int
  text : ByteArray
deriving DecidableEq
def Ins.cells (d : Ins) : List Value := [.int .i64 d.op, .int .i64 d.arg, .int .i64 d.int, .string d.text]
def Ins.ok (d : Ins) : Prop := (Lit.int .i64 d.op).wf = true ∧ (Lit.int .i64 d.arg).wf = true ∧ (Lit.int .i64 d.int).wf = true ∧ d.text.size ≤ maxLen
def Ins.Is (x : List Value) (d : Ins) : Prop := x = d.cells ∧ d.ok
structure Pl where
  known : Bool
  height : Int
  loops : List (Int × Int)
deriving DecidableEq
def Pl.none : Pl := ⟨false, 0, []⟩
def Pl.base (p : Pl) : Int := match p.loops.getLast? with | some x => x.1 | .none => 0
def Pl.next (p : Pl) : Int := match p.loops.getLast? with | some x => x.2 | .none => -1
def hasN (op : Int) : Nat := if op = 1 ∨ op = 8 then 1 else if op = 2 then 2 else if op = 3 then 3 else if (10 ≤ op ∧ op ≤ 12) ∨ op = 14 ∨ op = 15 then 4 else if op = 30 ∨ op = 31 ∨ op = 33 ∨ op = 34 ∨ op = 39 ∨ op = 40 then 5 else 0
def plainN (x : Ins) : Bool := decide (1 ≤ x.op ∧ x.op ≤ 40) && decide ((hasN x.op = 1 ∨ hasN x.op = 5 ∨ x.arg = 0) ∧ (hasN x.op = 2 ∨ x.int = 0) ∧ (hasN x.op = 3 ∨ hasN x.op = 4 ∨ x.text = ⟨#[]⟩) ∧ 0 ≤ x.arg) && (if hasN x.op = 3 then decide (x.text.size ≤ 4096) else if hasN x.op = 4 then rightN (bs x.text) else decide (x.op ≠ 1 ∨ 0 < x.arg))
def leadN (l : List Pl) (tw : Nat) (h : Int) (ls : List (Int × Int)) : Option (List Pl) :=
  match l[tw]? with
  | some p => if p.known = true then (if p.height = h ∧ p.loops = ls then some l else .none) else some (l.set tw ⟨true, h, ls⟩)
  | .none => .none
abbrev aheadN (n i : Nat) (x : Ins) : Prop := (i : Int) < x.arg ∧ x.arg ≤ n
def insN (c : List Ins) (l : List Pl) (i : Nat) (p : Pl) (x : Ins) : Option (List Pl) :=
  if x.op = 1 then leadN l (i + 1) p.height p.loops
  else if x.op = 8 then if x.arg < p.loops.length then leadN l (i + 1) (p.height + 1) p.loops else .none
  else if x.op ≤ 9 then leadN l (i + 1) (p.height + 1) p.loops
  else if 22 ≤ x.op ∧ x.op ≤ 28 then if 2 ≤ p.height - p.base then leadN l (i + 1) (p.height - 1) p.loops else .none
  else if x.op = 30 ∨ x.op = 31 then if 1 ≤ p.height - p.base ∧ aheadN c.length i x then (leadN l x.arg.toNat p.height p.loops).bind fun l => leadN l (i + 1) (p.height - 1) p.loops else .none
  else if x.op = 33 then if 1 ≤ p.height - p.base ∧ aheadN c.length i x then (leadN l x.arg.toNat (p.height - 1) p.loops).bind fun l => leadN l (i + 1) (p.height - 1) p.loops else .none
  else if x.op = 34 then if aheadN c.length i x then leadN l x.arg.toNat p.height p.loops else .none
  else if 35 ≤ x.op ∧ x.op ≤ 38 then if 1 ≤ p.height - p.base ∧ (c[i + 1]?).map (·.op) = some 39 then leadN l (i + 1) (p.height - 1) (p.loops ++ [(p.height - 1, (i : Int) + 1)]) else .none
  else if x.op = 39 then if p.loops ≠ [] ∧ p.next = i ∧ p.height - p.base = 0 ∧ aheadN c.length i x then (leadN l x.arg.toNat (p.base + 1) p.loops.dropLast).bind fun l => leadN l (i + 1) p.base p.loops else .none
  else if x.op = 40 then if p.loops ≠ [] ∧ x.arg = p.next ∧ p.height - p.base = 1 then some l else .none
  else if 1 ≤ p.height - p.base then leadN l (i + 1) p.height p.loops else .none
def stepN (c : List Ins) (l : List Pl) (i : Nat) : Option (List Pl) :=
  match l[i]?, c[i]? with
  | some p, some x => if p.known = true ∧ plainN x = true then insN c l i p x else .none
  | _, _ => .none
def endN (l : List Pl) (n : Nat) : Nat × Nat :=
  match l[n]? with
  | some p => if p.known = true ∧ p.height = 1 ∧ p.loops = [] then (0, 0) else (n, 110)
  | .none => (n, 110)
def goN (c : List Ins) : Nat → Nat → List Pl → Nat × Nat
  | 0, i, l => endN l i
  | m + 1, i, l => match stepN c l i with
    | some l' => goN c m (i + 1) l'
    | .none => (i, 110)
def startN (n : Nat) : List Pl := ⟨true, 0, []⟩ :: List.replicate n Pl.none
def rightC (c : List Ins) : Nat × Nat := if 1024 < c.length then (0, 4) else goN c c.length 0 (startN c.length)
structure Pl.Good (p : Pl) (j : Nat) : Prop where
  b0 : 0 ≤ p.base
  bh : p.base ≤ p.height
  hj : p.height ≤ j
  few : p.loops.length ≤ j
  all : ∀ a ∈ p.loops, 0 ≤ a.1 ∧ a.1 ≤ p.base ∧ 0 ≤ a.2 ∧ a.2 ≤ j
  up : p.loops.Pairwise (fun a b => a.1 ≤ b.1)
def AllGood (l : List Pl) : Prop := ∀ (j : Nat) (p : Pl), l[j]? = some p → p.known = true → p.Good j
theorem Pl.Good.more {p : Pl} {i j : Nat} (h : p.Good i) (hij : i ≤ j) : p.Good j :=
  ⟨h.b0, h.bh, by have := h.hj; omega, by have := h.few; omega, fun a ha => by have := h.all a ha; omega, h.up⟩
theorem leadN_len {l l' : List Pl} {tw : Nat} {h : Int} {ls : List (Int × Int)} (e : leadN l tw h ls = some l') : l'.length = l.length := by
  unfold leadN at e
  split at e
  · split at e
    · split at e
      · injection e with e; subst e; rfl
      · cases e
    · injection e with e; subst e; simp
  · cases e
theorem leadN_good {l l' : List Pl} {tw : Nat} {h : Int} {ls : List (Int × Int)} (g : AllGood l) (hg : (Pl.mk true h ls).Good tw) (e : leadN l tw h ls = some l') : AllGood l' := by
  unfold leadN at e
  split at e
  · split at e
    · split at e
      · injection e with e; subst e; exact g
      · cases e
    · injection e with e
      subst e
      intro j p hp hk
      by_cases hj : j = tw
      · subst hj
        have : j < l.length := by
          rcases Nat.lt_or_ge j l.length with h | h
          · exact h
          · rw [List.getElem?_eq_none (by simpa using h)] at hp; cases hp
        rw [List.getElem?_set_self (by simpa using this)] at hp
        injection hp with hp
        subst hp
        exact hg
      · rw [List.getElem?_set_ne (by omega)] at hp
        exact g j p hp hk
  · cases e
theorem Pl.Good.at_ {p : Pl} {i j : Nat} {h : Int} (g : p.Good i) (h1 : p.base ≤ h) (h2 : h ≤ j) (hij : i ≤ j) : (Pl.mk true h p.loops).Good j :=
  ⟨g.b0, h1, h2, by have := g.few; show p.loops.length ≤ j; omega, fun a ha => by have := g.all a ha; exact ⟨this.1, this.2.1, this.2.2.1, by omega⟩, g.up⟩
theorem Pl.Good.push {p : Pl} {i : Nat} (g : p.Good i) (h1 : 1 ≤ p.height - p.base) : (Pl.mk true (p.height - 1) (p.loops ++ [(p.height - 1, (i : Int) + 1)])).Good (i + 1) := by
  have hb : (Pl.mk true (p.height - 1) (p.loops ++ [(p.height - 1, (i : Int) + 1)])).base = p.height - 1 := by unfold Pl.base; simp
  have := g.b0
  have := g.hj
  refine ⟨by rw [hb]; omega, by rw [hb]; exact Int.le_refl _, by show p.height - 1 ≤ _; omega, by have := g.few; simp; omega, ?_, ?_⟩
  · intro a ha
    rw [hb]
    rw [List.mem_append, List.mem_singleton] at ha
    rcases ha with ha | rfl
    · have := g.all a ha; omega
    · simp; omega
  · show List.Pairwise _ (p.loops ++ [(p.height - 1, (i : Int) + 1)])
    rw [List.pairwise_append]
    refine ⟨g.up, by simp, ?_⟩
    intro a ha b hb
    rw [List.mem_singleton] at hb
    subst hb
    have := g.all a ha
    simp; omega
theorem Pl.Good.pop {p : Pl} {i j : Nat} (g : p.Good i) (hn : p.loops ≠ []) (hij : i < j) : (Pl.mk true (p.base + 1) p.loops.dropLast).Good j := by
  obtain ⟨l0, t, hl⟩ : ∃ l0 t, p.loops = l0 ++ [t] := ⟨_, _, (List.dropLast_concat_getLast hn).symm⟩
  have hd : p.loops.dropLast = l0 := by rw [hl]; simp
  have ht : p.base = t.1 := by unfold Pl.base; rw [hl]; simp
  have hu := g.up
  rw [hl, List.pairwise_append] at hu
  have hbh := g.bh
  have hj := g.hj
  have hf := g.few
  rw [hl] at hf
  simp at hf
  have hbt : (Pl.mk true (p.base + 1) l0).base = 0 ∧ l0 = [] ∨ (Pl.mk true (p.base + 1) l0).base ≤ p.base ∧ 0 ≤ (Pl.mk true (p.base + 1) l0).base ∧ ∀ a ∈ l0, a.1 ≤ (Pl.mk true (p.base + 1) l0).base := by
    by_cases h0 : l0 = []
    · left; subst h0; exact ⟨rfl, rfl⟩
    · right
      obtain ⟨l1, u, hl1⟩ : ∃ l1 u, l0 = l1 ++ [u] := ⟨_, _, (List.dropLast_concat_getLast h0).symm⟩
      have hbu : (Pl.mk true (p.base + 1) l0).base = u.1 := by unfold Pl.base; simp only; rw [hl1]; simp
      rw [hbu, ht]
      have hu0 := hu.1
      rw [hl1, List.pairwise_append] at hu0
      refine ⟨hu.2.2 u (by rw [hl1]; simp) t (by simp), (g.all u (by rw [hl, hl1]; simp)).1, ?_⟩
      intro a ha
      rw [hl1, List.mem_append, List.mem_singleton] at ha
      rcases ha with ha | rfl
      · exact hu0.2.2 a ha u (by simp)
      · exact Int.le_refl _
  rw [hd]
  have hb0 := g.b0
  refine ⟨?_, ?_, by show p.base + 1 ≤ _; omega, by show l0.length ≤ j; omega, ?_, hu.1⟩
  · rcases hbt with h | h <;> omega
  · show _ ≤ p.base + 1
    rcases hbt with h | h <;> omega
  · intro a ha
    have h1 := g.all a (by rw [hl]; simp; exact .inl ha)
    rcases hbt with ⟨_, h⟩ | h
    · rw [h] at ha; cases ha
    · exact ⟨h1.1, h.2.2 a ha, h1.2.2.1, by omega⟩
theorem bind_some' {α : Type} {o : Option α} {f : α → Option α} {r : α} (h : o.bind f = some r) : ∃ x, o = some x ∧ f x = some r := by
  cases o with
  | none => cases h
  | some x => exact ⟨x, rfl, h⟩
theorem insN_good {c : List Ins} {l l' : List Pl} {i : Nat} {p : Pl} {x : Ins} (g : AllGood l) (hp : p.Good i) (e : insN c l i p x = some l') : AllGood l' ∧ l'.length = l.length := by
  have h0 := hp.b0
  have h1 := hp.bh
  have h2 := hp.hj
  unfold insN at e
  by_cases c0 : x.op = 1
  · rw [if_pos c0] at e
    exact ⟨leadN_good g (hp.at_ (by omega) (by omega) (by omega)) e, leadN_len e⟩
  rw [if_neg c0] at e
  by_cases c1 : x.op = 8
  · rw [if_pos c1] at e
    by_cases hh : x.arg < p.loops.length
    · rw [if_pos hh] at e
      exact ⟨leadN_good g (hp.at_ (by omega) (by omega) (by omega)) e, leadN_len e⟩
    · rw [if_neg hh] at e; cases e
  rw [if_neg c1] at e
  by_cases c2 : x.op ≤ 9
  · rw [if_pos c2] at e
    exact ⟨leadN_good g (hp.at_ (by omega) (by omega) (by omega)) e, leadN_len e⟩
  rw [if_neg c2] at e
  by_cases c3 : 22 ≤ x.op ∧ x.op ≤ 28
  · rw [if_pos c3] at e
    by_cases hh : 2 ≤ p.height - p.base
    · rw [if_pos hh] at e
      exact ⟨leadN_good g (hp.at_ (by omega) (by omega) (by omega)) e, leadN_len e⟩
    · rw [if_neg hh] at e; cases e
  rw [if_neg c3] at e
  by_cases c4 : x.op = 30 ∨ x.op = 31
  · rw [if_pos c4] at e
    by_cases hh : 1 ≤ p.height - p.base ∧ aheadN c.length i x
    · rw [if_pos hh] at e
      obtain ⟨m, e1, e2⟩ := bind_some' e
      have hah := hh.2
      have := leadN_len e1
      exact ⟨leadN_good (leadN_good g (hp.at_ (by omega) (by omega) (by omega)) e1) (hp.at_ (by omega) (by omega) (by omega)) e2, by rw [leadN_len e2, this]⟩
    · rw [if_neg hh] at e; cases e
  rw [if_neg c4] at e
  by_cases c5 : x.op = 33
  · rw [if_pos c5] at e
    by_cases hh : 1 ≤ p.height - p.base ∧ aheadN c.length i x
    · rw [if_pos hh] at e
      obtain ⟨m, e1, e2⟩ := bind_some' e
      have hah := hh.2
      have := leadN_len e1
      exact ⟨leadN_good (leadN_good g (hp.at_ (by omega) (by omega) (by omega)) e1) (hp.at_ (by omega) (by omega) (by omega)) e2, by rw [leadN_len e2, this]⟩
    · rw [if_neg hh] at e; cases e
  rw [if_neg c5] at e
  by_cases c6 : x.op = 34
  · rw [if_pos c6] at e
    by_cases hh : aheadN c.length i x
    · rw [if_pos hh] at e
      exact ⟨leadN_good g (hp.at_ (by omega) (by omega) (by omega)) e, leadN_len e⟩
    · rw [if_neg hh] at e; cases e
  rw [if_neg c6] at e
  by_cases c7 : 35 ≤ x.op ∧ x.op ≤ 38
  · rw [if_pos c7] at e
    by_cases hh : 1 ≤ p.height - p.base ∧ (c[i + 1]?).map (·.op) = some 39
    · rw [if_pos hh] at e
      exact ⟨leadN_good g (hp.push hh.1) e, leadN_len e⟩
    · rw [if_neg hh] at e; cases e
  rw [if_neg c7] at e
  by_cases c8 : x.op = 39
  · rw [if_pos c8] at e
    by_cases hh : p.loops ≠ [] ∧ p.next = i ∧ p.height - p.base = 0 ∧ aheadN c.length i x
    · rw [if_pos hh] at e
      obtain ⟨m, e1, e2⟩ := bind_some' e
      have hah := hh.2
      have := leadN_len e1
      exact ⟨leadN_good (leadN_good g (hp.pop hh.1 (by have h9 := hh.2.2.2; unfold aheadN at h9; omega)) e1) (hp.at_ (by omega) (by omega) (by omega)) e2, by rw [leadN_len e2, this]⟩
    · rw [if_neg hh] at e; cases e
  rw [if_neg c8] at e
  by_cases c9 : x.op = 40
  · rw [if_pos c9] at e
    by_cases hh : p.loops ≠ [] ∧ x.arg = p.next ∧ p.height - p.base = 1
    · rw [if_pos hh] at e
      injection e with e; subst e; exact ⟨g, rfl⟩
    · rw [if_neg hh] at e; cases e
  rw [if_neg c9] at e
  by_cases hh : 1 ≤ p.height - p.base
  · rw [if_pos hh] at e
    exact ⟨leadN_good g (hp.at_ (by omega) (by omega) (by omega)) e, leadN_len e⟩
  · rw [if_neg hh] at e; cases e
theorem start_good (n : Nat) : AllGood (startN n) := by
  intro j p hp hk
  unfold startN at hp
  cases j with
  | zero =>
    simp at hp
    subst hp
    exact ⟨by decide, by decide, by decide, by decide, fun a ha => (by cases ha), List.Pairwise.nil⟩
  | succ j =>
    rw [List.getElem?_cons_succ] at hp
    have := List.mem_of_getElem? hp
    rw [List.mem_replicate] at this
    rw [this.2] at hk
    cases hk
theorem start_len (n : Nat) : (startN n).length = n + 1 := by simp [startN]
end Go.Proofs.YtdkoafmgenbkbaaGreatDoor
namespace Go.Proofs.YtdkoafmgenbkbaaGreatDoor
open Go.RowKit
def hiddenN (n : Nat) : Bool := decide (n ≠ 10 ∧ (n < 32 ∨ 126 < n))
def digitN (n : Nat) : Nat := if 48 ≤ n ∧ n ≤ 57 then n - 48 else if 97 ≤ n ∧ n ≤ 102 then n - 97 + 10 else 16
def hexN (n : Nat) : Nat := if n < 10 then 48 + n else 87 + n
def formN (n : Nat) : List Nat := if n = 34 then [92, 34] else if n = 92 then [92, 92] else if n = 10 then [92, 110] else if 32 ≤ n ∧ n ≤ 126 then [n] else [92, 120, hexN (n / 16), hexN (n % 16)]
theorem hidden_any (n : Nat) (w : World) : Calls Tryz.prog 56 #[.int .u8 (n : Int)] w fun e w' => e = .returned (.bool (hiddenN n)) ∧ Quiet w w' := by
  by_cases h1 : n = 10
  · have hv : hiddenN n = false := by simp [hiddenN, h1]
    rw [hv]; clear hv
    subst h1
    go_enter Tryz.func56, Tryz.ntmps56
    go_wp2
    go_ret
    exact ⟨rfl, Quiet.refl _⟩
  · have hv : hiddenN n = (decide (n < 32) || decide (126 < n)) := by rw [Bool.eq_iff_iff]; simp [hiddenN, h1]
    rw [hv]; clear hv
    have h1' : ((n : Int) != 10) = true := by simp; omega
    by_cases h2 : n < 32
    · go_enter Tryz.func56, Tryz.ntmps56
      go_wp2
      go_ret
      exact ⟨by simp [h1', h2], Quiet.refl _⟩
    · have h2' : decide ((n : Int) < 32) = false := by simp; omega
      go_enter Tryz.func56, Tryz.ntmps56
      go_wp2
      go_ret
      exact ⟨by simp [h1', h2]; omega, Quiet.refl _⟩
theorem digit_any (n : Nat) (hn : n < 256) (w : World) : Calls Tryz.prog 79 #[.int .u8 (n : Int)] w fun e w' => e = .returned (.int .u8 (digitN n : Int)) ∧ Quiet w w' := by
  by_cases h1 : 48 ≤ n
  · by_cases h2 : n ≤ 57
    · have hv : (digitN n : Int) = (n : Int) - 48 := by simp [digitN, h1, h2]; omega
      rw [hv]; clear hv
      go_enter Tryz.func79, Tryz.ntmps79
      go_wp2
      go_ret
      exact ⟨rfl, Quiet.refl _⟩
    · by_cases h3 : 97 ≤ n
      · by_cases h4 : n ≤ 102
        · have hv : (digitN n : Int) = (n : Int) - 97 + 10 := by simp [digitN, h1, h2, h3, h4]; omega
          rw [hv]; clear hv
          go_enter Tryz.func79, Tryz.ntmps79
          go_wp2
          go_ret
          exact ⟨rfl, Quiet.refl _⟩
        · have hv : digitN n = 16 := by simp [digitN, h2, h4]
          rw [hv]; clear hv
          go_enter Tryz.func79, Tryz.ntmps79
          go_wp2
          go_ret
          exact ⟨rfl, Quiet.refl _⟩
      · have hv : digitN n = 16 := by simp [digitN, h2, h3]
        rw [hv]; clear hv
        go_enter Tryz.func79, Tryz.ntmps79
        go_wp2
        go_ret
        exact ⟨rfl, Quiet.refl _⟩
  · have hv : digitN n = 16 := by simp [digitN, h1]; omega
    rw [hv]; clear hv
    have h3 : ¬ 97 ≤ n := by omega
    go_enter Tryz.func79, Tryz.ntmps79
    go_wp2
    go_ret
    exact ⟨rfl, Quiet.refl _⟩
theorem hex_digit (k : Nat) (h : k < 16) : (⟨#[48, 49, 50, 51, 52, 53, 54, 55, 56, 57, 97, 98, 99, 100, 101, 102]⟩ : ByteArray)[k]'h = UInt8.ofNat (hexN k) := by
  have : ∀ k : Fin 16, (⟨#[48, 49, 50, 51, 52, 53, 54, 55, 56, 57, 97, 98, 99, 100, 101, 102]⟩ : ByteArray)[k.1]'k.2 = UInt8.ofNat (hexN k.1) := by decide
  exact this ⟨k, h⟩
theorem hexN_lt (k : Nat) (h : k < 16) : hexN k < 256 := by unfold hexN; split <;> omega
theorem index_hex (W : World) (t : TypeId) (ht : Tryz.prog.underlying t = some .string) (k : Nat) (h : k < 16) (ik : IntKind) (i : Int) (hi : i = (k : Int)) :
    (Instr.index t (.string ⟨#[48, 49, 50, 51, 52, 53, 54, 55, 56, 57, 97, 98, 99, 100, 101, 102]⟩) (.int ik i)).run Tryz.prog W = .ok (.int .u8 (hexN k : Int)) W := by
  subst hi
  rw [run_index_string W t _ ik _ ht, dif_pos ⟨Int.natCast_nonneg _, by show (k : Int) < ((16 : Nat) : Int); omega⟩]
  have e : ∀ hh, (⟨#[48, 49, 50, 51, 52, 53, 54, 55, 56, 57, 97, 98, 99, 100, 101, 102]⟩ : ByteArray)[(k : Int).toNat]'hh = UInt8.ofNat (hexN k) := by
    intro hh
    exact hex_digit k h
  rw [e]
  simp [Nat.mod_eq_of_lt (hexN_lt k h)]
end Go.Proofs.YtdkoafmgenbkbaaGreatDoor
namespace Go.Proofs.YtdkoafmgenbkbaaGreatDoor
def esc : List Nat → Option (Nat × Nat) × Nat
  | [] => (none, 1)
  | d :: t => if d = 34 ∨ d = 92 then (some (d, 2), 2) else if d = 110 then (some (10, 2), 2) else if d ≠ 120 then (none, 1) else
    match t with
    | [] => (none, 2)
    | h :: t => if 15 < digitN h ∨ (hiddenN (16 * digitN h) = false ∧ hiddenN (16 * digitN h + 15) = false) then (none, 2) else
      match t with
      | [] => (none, 3)
      | l :: _ => if 15 < digitN l ∨ hiddenN (16 * digitN h + digitN l) = false then (none, 3) else (some (16 * digitN h + digitN l, 4), 4)
def one : List Nat → Option (Nat × Nat) × Nat
  | [] => (none, 0)
  | c :: t => if c = 92 then esc t else if c < 32 ∨ 126 < c then (none, 0) else (some (c, 1), 1)
def common : List Nat → List Nat → Nat
  | a :: l, b :: m => if a = b then common l m + 1 else 0
  | _, _ => 0
theorem digit_hex (k : Nat) (h : k < 16) : digitN (hexN k) = k := by
  have : ∀ k : Fin 16, digitN (hexN k.1) = k.1 := by decide
  exact this ⟨k, h⟩
theorem hex_of_digit (n : Nat) (h : digitN n ≤ 15) : hexN (digitN n) = n := by
  unfold digitN at h ⊢
  unfold hexN
  split at h
  · rename_i h1
    rw [if_pos h1, if_pos (by omega)]; omega
  · rename_i h1
    split at h
    · rename_i h2
      rw [if_neg h1, if_pos h2, if_neg (by omega)]; omega
    · omega
theorem form_hidden {c : Nat} (h : hiddenN c = true) : formN c = [92, 120, hexN (c / 16), hexN (c % 16)] := by
  simp only [hiddenN, decide_eq_true_eq] at h
  unfold formN
  rw [if_neg (by omega), if_neg (by omega), if_neg (by omega), if_neg (by omega)]
theorem form_plain {c : Nat} (h1 : 32 ≤ c) (h2 : c ≤ 126) (h3 : c ≠ 34) (h4 : c ≠ 92) : formN c = [c] := by
  unfold formN
  rw [if_neg h3, if_neg h4, if_neg (by omega), if_pos ⟨h1, h2⟩]
theorem form_cases (c : Nat) : (c = 34 ∧ formN c = [92, 34]) ∨ (c = 92 ∧ formN c = [92, 92]) ∨ (c = 10 ∧ formN c = [92, 110]) ∨ (32 ≤ c ∧ c ≤ 126 ∧ c ≠ 34 ∧ c ≠ 92 ∧ formN c = [c]) ∨ (hiddenN c = true ∧ formN c = [92, 120, hexN (c / 16), hexN (c % 16)]) := by
  by_cases h1 : c = 34
  · subst h1; exact Or.inl ⟨rfl, rfl⟩
  by_cases h2 : c = 92
  · subst h2; exact Or.inr (Or.inl ⟨rfl, rfl⟩)
  by_cases h3 : c = 10
  · subst h3; exact Or.inr (Or.inr (Or.inl ⟨rfl, rfl⟩))
  by_cases h4 : 32 ≤ c ∧ c ≤ 126
  · exact Or.inr (Or.inr (Or.inr (Or.inl ⟨h4.1, h4.2, h1, h2, form_plain h4.1 h4.2 h1 h2⟩)))
  · have h : hiddenN c = true := by simp only [hiddenN, decide_eq_true_eq]; omega
    exact Or.inr (Or.inr (Or.inr (Or.inr ⟨h, form_hidden h⟩)))
theorem form_len (c : Nat) : 1 ≤ (formN c).length ∧ (formN c).length ≤ 4 := by
  rcases form_cases c with ⟨_, h⟩ | ⟨_, h⟩ | ⟨_, h⟩ | ⟨_, _, _, _, h⟩ | ⟨_, h⟩ <;> rw [h] <;> simp
theorem row_hidden {c : Nat} (hc : c < 256) (h : hiddenN c = true) : hiddenN (16 * (c / 16)) = true ∨ hiddenN (16 * (c / 16) + 15) = true := by
  simp only [hiddenN, decide_eq_true_eq] at *
  omega
theorem one_of_form {c : Nat} (hc : c < 256) (t : List Nat) : one (formN c ++ t) = (some (c, (formN c).length), (formN c).length) := by
  rcases form_cases c with ⟨rfl, h⟩ | ⟨rfl, h⟩ | ⟨rfl, h⟩ | ⟨h1, h2, h3, h4, h⟩ | ⟨h0, h⟩
  · rfl
  · rfl
  · rfl
  · rw [h]
    show (if c = 92 then _ else _) = _
    rw [if_neg h4, if_neg (by omega)]
    rfl
  · rw [h]
    have d1 := digit_hex (c / 16) (by omega)
    have d2 := digit_hex (c % 16) (by omega)
    have e : 16 * (c / 16) + c % 16 = c := by omega
    have hr := row_hidden hc h0
    have k1 : ¬ (15 < c / 16 ∨ (hiddenN (16 * (c / 16)) = false ∧ hiddenN (16 * (c / 16) + 15) = false)) := by
      intro hh
      rcases hh with hh | ⟨a, b⟩
      · omega
      · rw [a, b] at hr; simp at hr
    have k2 : ¬ (15 < c % 16 ∨ hiddenN c = false) := by
      intro hh
      rcases hh with hh | a
      · omega
      · rw [a] at h0; cases h0
    simp only [List.cons_append, List.nil_append, one, esc, d1, d2, e]
    rw [if_pos trivial, if_neg (by omega), if_neg (by omega), if_neg (by simp), if_neg k1, if_neg k2]
    rfl
end Go.Proofs.YtdkoafmgenbkbaaGreatDoor
namespace Go.Proofs.YtdkoafmgenbkbaaGreatDoor
def dec (u : Nat) : List Nat := if h : u < 10 then [48 + u] else dec (u / 10) ++ [48 + u % 10]
termination_by u
decreasing_by omega
def val (a : Nat) (l : List Nat) : Nat := l.foldl (fun a c => 10 * a + (c - 48)) a
def Digits (l : List Nat) : Prop := ∀ c ∈ l, 48 ≤ c ∧ c ≤ 57
instance (l : List Nat) : Decidable (Digits l) := inferInstanceAs (Decidable (∀ c ∈ l, 48 ≤ c ∧ c ≤ 57))
def showN (n : Int) : List Nat := if n < 0 then 45 :: dec n.natAbs else dec n.toNat
def intN (l : List Nat) : Option Int :=
  if l.head? = some 45 then
    if l.tail = [] ∨ 19 < l.tail.length ∨ l.tail.head? = some 48 then none else if Digits l.tail then (if 9223372036854775808 < val 0 l.tail then none else some (-(val 0 l.tail : Int))) else none
  else
    if l = [] ∨ 19 < l.length ∨ (l.head? = some 48 ∧ 1 < l.length) then none else if Digits l then (if 9223372036854775807 < val 0 l then none else some (val 0 l : Int)) else none
theorem dec_small {u : Nat} (h : u < 10) : dec u = [48 + u] := by rw [dec, dif_pos h]
theorem dec_big {u : Nat} (h : ¬ u < 10) : dec u = dec (u / 10) ++ [48 + u % 10] := by rw [dec, dif_neg h]
theorem val_app (a : Nat) (l m : List Nat) : val a (l ++ m) = val (val a l) m := by simp [val]
theorem val_dec (u : Nat) : val 0 (dec u) = u := by
  induction u using Nat.strongRecOn with
  | _ u ih =>
    by_cases h : u < 10
    · rw [dec_small h]; simp [val]
    · rw [dec_big h, val_app, ih (u / 10) (by omega)]; simp [val]; omega
theorem dec_digits (u : Nat) : Digits (dec u) := by
  induction u using Nat.strongRecOn with
  | _ u ih =>
    by_cases h : u < 10
    · rw [dec_small h]; intro c hc; simp at hc; omega
    · rw [dec_big h]; intro c hc
      rcases List.mem_append.1 hc with hc | hc
      · exact ih (u / 10) (by omega) c hc
      · simp at hc; omega
theorem dec_ne (u : Nat) : dec u ≠ [] := by
  by_cases h : u < 10
  · rw [dec_small h]; simp
  · rw [dec_big h]; simp
theorem dec_head (u : Nat) (h0 : u ≠ 0) : (dec u).head? ≠ some 48 := by
  induction u using Nat.strongRecOn with
  | _ u ih =>
    by_cases h : u < 10
    · rw [dec_small h]; simp; omega
    · rw [dec_big h]
      have h1 := ih (u / 10) (by omega) (by omega)
      have h2 := dec_ne (u / 10)
      cases hd : dec (u / 10) with
      | nil => exact absurd hd h2
      | cons a t => rw [hd] at h1; simpa using h1
theorem dec_len (u n : Nat) (h : u < 10 ^ n) (hn : 0 < n) : (dec u).length ≤ n := by
  induction n generalizing u with
  | zero => omega
  | succ n ih =>
    by_cases h1 : u < 10
    · rw [dec_small h1]; simp
    · rw [dec_big h1, List.length_append]
      have hn0 : 0 < n := by
        rcases Nat.eq_zero_or_pos n with rfl | hp
        · simp at h; omega
        · exact hp
      have := ih (u / 10) (by rw [Nat.pow_succ] at h; omega) hn0
      simp; omega
theorem val_pos {l : List Nat} (a : Nat) (ha : 0 < a) : 0 < val a l := by
  induction l generalizing a with
  | nil => exact ha
  | cons c l ih => exact ih (10 * a + (c - 48)) (by omega)
theorem dec_val : ∀ (n : Nat) (l : List Nat), l.length = n → l ≠ [] → Digits l → (l.head? ≠ some 48 ∨ l.length = 1) → dec (val 0 l) = l
  | 0, l, hn, hne, _, _ => absurd (List.eq_nil_of_length_eq_zero hn) hne
  | n + 1, l, hn, hne, hd, hh => by
    have hl := List.dropLast_concat_getLast hne
    generalize l.dropLast = m at hl
    generalize l.getLast hne = c at hl
    subst hl
    have hc := hd c (by simp)
    rw [val_app]
    cases hm : m with
    | nil => subst hm; rw [dec_small (by simp [val]; omega)]; simp [val]; omega
    | cons b t =>
      have hb := hd b (by simp [hm])
      have h48 : b ≠ 48 := by
        rcases hh with hh | hh
        · rw [hm] at hh; simpa using hh
        · rw [hm] at hh; simp at hh
      have ih := dec_val n m (by simpa using hn) (by rw [hm]; simp) (fun x hx => hd x (by simp [hx])) (Or.inl (by rw [hm]; simpa using h48))
      have hp : 0 < val 0 m := by rw [hm]; exact val_pos (l := t) (10 * 0 + (b - 48)) (by omega)
      rw [← hm]
      show dec (10 * val 0 m + (c - 48)) = m ++ [c]
      rw [dec_big (by omega)]
      have e1 : (10 * val 0 m + (c - 48)) / 10 = val 0 m := by omega
      have e2 : 48 + (10 * val 0 m + (c - 48)) % 10 = c := by omega
      rw [e1, e2, ih]
theorem intN_some {l : List Nat} {v : Int} (h : intN l = some v) : -9223372036854775808 ≤ v ∧ v ≤ 9223372036854775807 ∧ showN v = l ∧ l.length ≤ 20 := by
  unfold intN at h
  split at h
  · rename_i hb
    split at h
    · cases h
    · rename_i hc
      split at h
      · rename_i hd
        split at h
        · cases h
        · rename_i hv
          injection h with h
          subst h
          have h1 : l.tail ≠ [] := fun e => hc (Or.inl e)
          have h2 : ¬ 19 < l.tail.length := fun e => hc (Or.inr (Or.inl e))
          have h3 : l.tail.head? ≠ some 48 := fun e => hc (Or.inr (Or.inr e))
          have hdv := dec_val _ l.tail rfl h1 hd (Or.inl h3)
          have hl : l = 45 :: l.tail := by
            cases l with
            | nil => simp at hb
            | cons a t => simp at hb; simp [hb]
          have hp : 0 < val 0 l.tail := by
            rcases Nat.eq_zero_or_pos (val 0 l.tail) with h0 | h0
            · rw [h0] at hdv; rw [← hdv, dec_small (by omega)] at h3; simp at h3
            · exact h0
          refine ⟨by omega, by omega, ?_, ?_⟩
          · unfold showN
            rw [if_pos (by omega)]
            have : (-(val 0 l.tail : Int)).natAbs = val 0 l.tail := by omega
            rw [this, hdv, ← hl]
          · have e := congrArg List.length hl
            rw [List.length_cons] at e
            omega
      · cases h
  · rename_i hb
    split at h
    · cases h
    · rename_i hc
      split at h
      · rename_i hd
        split at h
        · cases h
        · rename_i hv
          injection h with h
          subst h
          have h1 : l ≠ [] := fun e => hc (Or.inl e)
          have h2 : ¬ 19 < l.length := fun e => hc (Or.inr (Or.inl e))
          have h3 : l.head? ≠ some 48 ∨ l.length = 1 := by
            by_cases e : l.head? = some 48
            · right
              have : ¬ 1 < l.length := fun e' => hc (Or.inr (Or.inr ⟨e, e'⟩))
              have : l.length ≠ 0 := fun e' => h1 (List.eq_nil_of_length_eq_zero e')
              omega
            · exact Or.inl e
          have hdv := dec_val _ l rfl h1 hd h3
          refine ⟨by omega, by omega, ?_, by omega⟩
          unfold showN
          rw [if_neg (by omega)]
          simp [hdv]
      · cases h
theorem intN_show {v : Int} (h1 : -9223372036854775808 ≤ v) (h2 : v ≤ 9223372036854775807) : intN (showN v) = some v := by
  unfold showN
  split
  · rename_i hneg
    obtain ⟨u, rfl⟩ : ∃ u : Nat, v = -(u : Int) := ⟨v.natAbs, by omega⟩
    have e : (-(u : Int)).natAbs = u := by omega
    rw [e]
    have hu : u ≠ 0 := by omega
    have hlen : (dec u).length ≤ 19 := dec_len u 19 (by omega) (by omega)
    unfold intN
    rw [if_pos (show (45 :: dec u).head? = some 45 from rfl)]
    have hc : ¬ ((45 :: dec u).tail = [] ∨ 19 < (45 :: dec u).tail.length ∨ (45 :: dec u).tail.head? = some 48) := by
      rw [List.tail_cons]
      intro hx
      rcases hx with hx | hx | hx
      · exact dec_ne u hx
      · omega
      · exact dec_head u hu hx
    rw [if_neg hc, if_pos (show Digits (45 :: dec u).tail from dec_digits u), if_neg (show ¬ 9223372036854775808 < val 0 (45 :: dec u).tail by rw [List.tail_cons, val_dec]; omega), List.tail_cons, val_dec]
  · rename_i hneg
    obtain ⟨u, rfl⟩ : ∃ u : Nat, v = (u : Int) := ⟨v.toNat, by omega⟩
    rw [Int.toNat_natCast]
    have hlen : (dec u).length ≤ 19 := dec_len u 19 (by omega) (by omega)
    have hne := dec_ne u
    have hdg := dec_digits u
    unfold intN
    have hh : (dec u).head? ≠ some 45 := by
      cases hd : dec u with
      | nil => simp
      | cons a t =>
        have := hdg a (by rw [hd]; simp)
        simp; omega
    rw [if_neg hh]
    have hc : ¬ (dec u = [] ∨ 19 < (dec u).length ∨ ((dec u).head? = some 48 ∧ 1 < (dec u).length)) := by
      intro hx
      rcases hx with hx | hx | ⟨hx, hy⟩
      · exact hne hx
      · omega
      · rcases Nat.eq_zero_or_pos u with h0 | h0
        · subst h0; rw [dec_small (by omega)] at hy; simp at hy
        · exact dec_head u (by omega) hx
    rw [if_neg hc, if_pos hdg, val_dec, if_neg (by omega)]
theorem dec_lib (u : Nat) : (Lib.decDigits u).map UInt8.toNat = dec u := by
  induction u using Nat.strongRecOn with
  | _ u ih =>
    rw [Lib.decDigits, dec]
    by_cases h : u < 10
    · rw [dif_pos h, dif_pos h]
      simp; omega
    · rw [dif_neg h, dif_neg h, List.map_append, ih (u / 10) (by omega)]
      simp; omega
theorem show_lib (n : Int) : (Lib.itoa n).map UInt8.toNat = showN n := by
  unfold Lib.itoa showN
  split
  · rw [List.map_cons, dec_lib]; rfl
  · exact dec_lib _
theorem show_txt (n : Int) : (⟨(Lib.itoa n).toArray⟩ : ByteArray) = txt (showN n) := by
  apply bs_inj
  rw [bs_txt]
  · rw [← show_lib]; simp [bs]
  · intro c hc
    rw [← show_lib, List.mem_map] at hc
    obtain ⟨b, _, rfl⟩ := hc
    exact b.toNat_lt
theorem parse_digits : ∀ (l : List UInt8) (acc : Nat), Digits (l.map UInt8.toNat) → val acc (l.map UInt8.toNat) ≤ 2 ^ 64 - 1 → Lib.parseUintM (2 ^ 64 - 1) acc l = .ok (val acc (l.map UInt8.toNat))
  | [], acc, _, _ => rfl
  | c :: l, acc, hd, hv => by
    have hc := hd c.toNat (by simp)
    have hge : ∀ (m : List Nat) (a : Nat), a ≤ val a m := by
      intro m
      induction m with
      | nil => intro a; exact Nat.le_refl _
      | cons x m ih => intro a; exact Nat.le_trans (by omega) (ih (10 * a + (x - 48)))
    have hv' : val (10 * acc + (c.toNat - 48)) (l.map UInt8.toNat) ≤ 2 ^ 64 - 1 := hv
    have h1 := hge (l.map UInt8.toNat) (10 * acc + (c.toNat - 48))
    have e : acc * 10 + (c.toNat - 48) = 10 * acc + (c.toNat - 48) := by omega
    rw [Lib.parseUintM, if_pos hc, if_neg (by omega), if_neg (by omega), e]
    exact parse_digits l _ (fun x hx => hd x (by simp at hx ⊢; exact Or.inr hx)) hv'
theorem parse_dec (u : Nat) (h : u ≤ 2 ^ 64 - 1) : Lib.parseUintB 64 (Lib.decDigits u) = .ok u := by
  have hne : Lib.decDigits u ≠ [] := by
    intro e
    have := dec_lib u
    rw [e] at this
    exact dec_ne u this.symm
  unfold Lib.parseUintB
  rw [if_neg hne, parse_digits _ _ (by rw [dec_lib]; exact dec_digits u) (by rw [dec_lib, val_dec]; exact h), dec_lib, val_dec]
theorem parse_show {v : Int} (h1 : -9223372036854775808 ≤ v) (h2 : v ≤ 9223372036854775807) : Lib.parseIntB 64 (Lib.itoa v) = .ok v := by
  unfold Lib.itoa
  split
  · rename_i hneg
    obtain ⟨u, rfl⟩ : ∃ u : Nat, v = -(u : Int) := ⟨v.natAbs, by omega⟩
    have e : (-(u : Int)).natAbs = u := by omega
    rw [e]
    have hp := parse_dec u (by omega)
    have h45 : (45 : UInt8).toNat = 45 := rfl
    simp only [Lib.parseIntB, h45]
    rw [if_pos (Or.inr trivial), hp]
    simp only
    rw [if_neg (by simp), if_neg (by simp; omega), if_pos trivial]
  · rename_i hneg
    obtain ⟨u, rfl⟩ : ∃ u : Nat, v = (u : Int) := ⟨v.toNat, by omega⟩
    rw [Int.toNat_natCast]
    have hp := parse_dec u (by omega)
    have hdl := dec_lib u
    have hdg := dec_digits u
    cases hd : Lib.decDigits u with
    | nil => rw [hd] at hdl; exact absurd hdl.symm (dec_ne u)
    | cons c t =>
      have hc : 48 ≤ c.toNat ∧ c.toNat ≤ 57 := hdg _ (by rw [← hdl, hd]; simp)
      rw [hd] at hp
      simp only [Lib.parseIntB]
      rw [if_neg (by omega), hp]
      simp only
      rw [if_neg (by simp; omega), if_neg (by omega), if_neg (by omega)]
theorem int_of_parse (s : ByteArray) (v : Int) (h : Lib.parseIntB 64 s.data.toList = .ok v) (h1 : -9223372036854775808 ≤ v) (h2 : v ≤ 9223372036854775807) (hs : (⟨(Lib.itoa v).toArray⟩ : ByteArray) = s) : intN (bs s) = some v := by
  rw [← hs, show_txt, bs_txt]
  · exact intN_show h1 h2
  · intro c hc
    rw [← show_lib, List.mem_map] at hc
    obtain ⟨b, _, rfl⟩ := hc
    exact b.toNat_lt
theorem parse_of_int (s : ByteArray) (v : Int) (h : intN (bs s) = some v) : Lib.parseIntB 64 s.data.toList = .ok v ∧ (⟨(Lib.itoa v).toArray⟩ : ByteArray) = s ∧ s.size ≤ 20 := by
  obtain ⟨h1, h2, h3, h4⟩ := intN_some h
  have hs : (⟨(Lib.itoa v).toArray⟩ : ByteArray) = s := by rw [show_txt, h3, txt_bs]
  refine ⟨?_, hs, by rw [← bs_len]; exact h4⟩
  rw [← hs]
  exact parse_show h1 h2
end Go.Proofs.YtdkoafmgenbkbaaGreatDoor
namespace Go.Proofs.YtdkoafmgenbkbaaGreatDoor
open Go.RowKit
theorem var_keep {P : Program} {w w' : World} {n : String} {cs : Array Value} (h : w.var? P n = some cs) (hb : Below w.heap.size w w') : w'.var? P n = some cs := by
  unfold World.var? at h ⊢
  cases hg : P.globalNamed n with
  | none => rw [hg] at h; simp at h
  | some g =>
    rw [hg] at h
    simp only [Option.bind_some] at h ⊢
    have hlt : g < w.heap.size := by
      rcases Nat.lt_or_ge g w.heap.size with hlt | hge
      · exact hlt
      · rw [Array.getElem?_eq_none hge] at h; cases h
    rw [hb.block g hlt]
    exact h
theorem below_grow (w : World) (k : Nat) (os : Array Obj) : Below w.heap.size w (Sort.grow (w.drewN k) os) :=
  ⟨rfl, rfl, rfl, by show w.heap.size ≤ (w.heap ++ os).size; simp, fun g hg => by
    show (w.heap ++ os)[g]? = w.heap[g]?
    rw [Array.getElem?_append_left hg]⟩
def Pow (w : World) : Prop := Lib.TabIs Tryz.prog w "internal/strconv.uint64pow10" .u64 Lib.pow10Tab
theorem Pow.below {w w' : World} (h : Pow w) (hb : Below w.heap.size w w') : Pow w' := var_keep h hb
theorem show_any (n : Int) (h0 : -9223372036854775808 ≤ n) (h1 : n ≤ 9223372036854775807) (w : World) (hv : Pow w) : Calls Tryz.prog 32 #[.int .i64 n] w fun e w' => e = .returned (.string (txt (showN n))) ∧ Below w.heap.size w w' := by
  have F := zH (Tryz.strconv_FormatInt_10 n h0 h1 w hv)
  rw [show_txt] at F
  clear hv
  go_enter Tryz.func32, Tryz.ntmps32
  go_wp2_with (go_at_call 55; refine F.out.mono ?_; rintro e w1 ⟨rfl, k, os, rfl⟩)
  go_ret
  exact ⟨rfl, below_grow _ _ _⟩
end Go.Proofs.YtdkoafmgenbkbaaGreatDoor
namespace Go.Proofs.YtdkoafmgenbkbaaGreatDoor
open Go.RowKit
def intV (r : Option Int) : Value := match r with
  | some v => .tuple #[.int .i64 v, .int .i64 0]
  | none => .tuple #[.int .i64 0, .int .i64 2]
theorem get_bs {s : ByteArray} {k : Nat} (h : k < s.size) : ∃ c, (bs s)[k]? = some c ∧ c < 256 := ⟨_, bs_at h, UInt8.toNat_lt _⟩
theorem index_txt (W : World) (t : TypeId) (ht : Tryz.prog.underlying t = some .string) {s : ByteArray} {k c : Nat} (hc : (bs s)[k]? = some c) (ik : IntKind) (i : Int) (hi : i = (k : Int)) :
    (Instr.index t (.string s) (.int ik i)).run Tryz.prog W = .ok (.int .u8 (c : Int)) W := by
  have hk : k < s.size := by rw [← bs_len]; exact (List.getElem?_eq_some_iff.1 hc).1
  subst hi
  rw [run_index_string W t _ ik _ ht, dif_pos ⟨Int.natCast_nonneg _, by omega⟩]
  have e : ∀ hh, (s[(k : Int).toNat]'hh).toNat = c := by
    intro hh
    have h2 : k < s.size := hk
    have h3 := bs_at h2
    rw [h3] at hc
    exact Option.some.inj hc
  rw [e]
theorem txt_app (l m : List Nat) : txt l ++ txt m = txt (l ++ m) := by
  apply ByteArray.ext
  rw [ByteArray.data_append]
  simp [txt]
end Go.Proofs.YtdkoafmgenbkbaaGreatDoor
namespace Go.Proofs.YtdkoafmgenbkbaaGreatDoor
open Go.RowKit
def Vars (w : World) : Prop := Pow w ∧ (∃ tp p, w.var? Tryz.prog "strconv.ErrSyntax" = some #[.iface tp p]) ∧ (∃ tp p, w.var? Tryz.prog "strconv.ErrRange" = some #[.iface tp p])
theorem Vars.below {w w' : World} (h : Vars w) (hb : Below w.heap.size w w') : Vars w' := by
  obtain ⟨h1, ⟨t2, p2, h2⟩, t3, p3, h3⟩ := h
  exact ⟨h1.below hb, ⟨t2, p2, var_keep h2 hb⟩, t3, p3, var_keep h3 hb⟩
theorem int_any (s : ByteArray) (hs : s.size ≤ 281474976710656) (w : World) (hv : Vars w) : Calls Tryz.prog 40 #[.string s] w fun e w' => e = .returned (intV (intN (bs s))) ∧ Below w.heap.size w w' := by
  by_cases hlen : 20 < s.size
  · have hn : intN (bs s) = none := by
      cases h : intN (bs s) with
      | none => rfl
      | some v => have := (intN_some h).2.2.2; rw [bs_len] at this; omega
    have HN := zH hn
    clear hn
    go_enter Tryz.func40, Tryz.ntmps40
    go_wp2_with fail
    go_ret2
    exact ⟨by rw [HN.out]; rfl, zB⟩
  have hv1 := hv
  obtain ⟨_, ⟨t2, p2, h2⟩, t3, p3, h3⟩ := hv1
  rcases h : Lib.parseIntB 64 s.data.toList with v | _ | _
  rotate_left
  · have hn : intN (bs s) = none := by
      cases h' : intN (bs s) with
      | none => rfl
      | some v => have := (parse_of_int s v h').1; rw [h] at this; cases this
    have HN := zH hn
    have F := zH (Tryz.strconv_ParseInt_10_at64_syntax_var s hs h t2 p2 w h2)
    clear hn hv h2 h3 h
    go_enter Tryz.func40, Tryz.ntmps40
    go_wp2_with (go_at_call 59; refine F.out.mono ?_; rintro e w1 ⟨N, rfl, _, _, hb⟩)
    go_ret2
    exact ⟨by rw [HN.out]; rfl, hb⟩
  · have hn : intN (bs s) = none := by
      cases h' : intN (bs s) with
      | none => rfl
      | some v => have := (parse_of_int s v h').1; rw [h] at this; cases this
    have HN := zH hn
    have F := zH (Tryz.strconv_ParseInt_10_at64_range_var s hs h t3 p3 w h3)
    clear hn hv h2 h3 h
    go_enter Tryz.func40, Tryz.ntmps40
    go_wp2_with (go_at_call 59; refine F.out.mono ?_; rintro e w1 ⟨N, rfl, _, _, hb⟩)
    go_ret2
    exact ⟨by rw [HN.out]; rfl, hb⟩
  · have hbd := Lib.parseIntB_bounds (B := 64) h
    have hb0 : -9223372036854775808 ≤ v := by have := hbd.1; omega
    have hb1 : v ≤ 9223372036854775807 := by have := hbd.2; omega
    have F := zH (Tryz.strconv_ParseInt_10_at64_ok s (by omega) v h w)
    have G : Hid (∀ W, Below w.heap.size w W → Calls Tryz.prog 32 #[.int .i64 v] W fun e w' => e = .returned (.string (txt (showN v))) ∧ Below W.heap.size W w') := zH (fun W hW => show_any v hb0 hb1 W (hv.below hW).1)
    by_cases hx : txt (showN v) = s
    · have hn : intN (bs s) = some v := int_of_parse s v h hb0 hb1 (by rw [show_txt]; exact hx)
      have HN := zH hn
      rw [hx] at G
      clear hn hv h2 h3 h hx hbd hb0 hb1
      go_enter Tryz.func40, Tryz.ntmps40
      go_wp2_with (first
        | (go_at_call 59; refine F.out.mono ?_; rintro e w1 ⟨rfl, hw⟩
           have hb : Hid (Below w.heap.size w w1) := by
             rcases hw with rfl | ⟨t, rfl⟩
             · exact zB
             · exact Lib.bytesWorld_below _ _ _
           clear hw)
        | (go_at_call 32; refine (G.out _ hb.out).mono ?_; rintro e w2 ⟨rfl, hb2⟩))
      go_ret2
      exact ⟨by rw [HN.out]; rfl, hb.out.trans (hb2.mono hb.out.size)⟩
    · have hn : intN (bs s) = none := by
        cases h' : intN (bs s) with
        | none => rfl
        | some u =>
          obtain ⟨g1, g2, _⟩ := parse_of_int s u h'
          rw [h] at g1
          injection g1 with g1
          subst g1
          rw [show_txt] at g2
          exact absurd g2 hx
      have HN := zH hn
      generalize txt (showN v) = x at G hx
      have hx1 : (x.toList == s.toList) = false := by
        rw [beq_eq_false_iff_ne]
        exact fun e => hx ((toList_inj x s).1 e)
      clear hn hv h2 h3 h hbd hb0 hb1
      go_enter Tryz.func40, Tryz.ntmps40
      go_wp2_with (first
        | (go_at_call 59; refine F.out.mono ?_; rintro e w1 ⟨rfl, hw⟩
           have hb : Hid (Below w.heap.size w w1) := by
             rcases hw with rfl | ⟨t, rfl⟩
             · exact zB
             · exact Lib.bytesWorld_below _ _ _
           clear hw)
        | (go_at_call 32; refine (G.out _ hb.out).mono ?_; rintro e w2 ⟨rfl, hb2⟩))
      go_ret2
      exact ⟨by rw [HN.out]; rfl, hb.out.trans (hb2.mono hb.out.size)⟩
end Go.Proofs.YtdkoafmgenbkbaaGreatDoor
namespace Go.Proofs.YtdkoafmgenbkbaaGreatDoor
open Go.RowKit
def RowR {α : Type} (W : World) (t : TypeId) (size : Nat) (R : List Value → α → Prop) (v : Value) (l : List α) : Prop :=
  ∃ (a : Option Addr) (c : Nat), v = .slice a l.length c ∧ l.length ≤ c ∧ c ≤ maxLen ∧
    (0 < l.length → ∃ g cs, a = some ⟨g, 0, none⟩ ∧ Blk W g t cs ∧ ∀ (i : Nat) (y : α), l[i]? = some y → ∃ x : List Value, x.length = size ∧ R x y ∧ ∀ (j : Nat) (u : Value), x[j]? = some u → cs[i * size + j]? = some u)
section
variable {α : Type} {W W' : World} {t : TypeId} {size : Nat} {R : List Value → α → Prop} {v : Value} {l : List α}
theorem RowR.nil_ : RowR W t size R (.slice none 0 0) ([] : List α) := ⟨none, 0, rfl, Nat.zero_le _, by decide, fun h => by simp at h⟩
theorem RowR.form (h : RowR W t size R v l) : ∃ a c, v = .slice a l.length c := by
  obtain ⟨a, c, h1, _⟩ := h
  exact ⟨a, c, h1⟩
theorem RowR.keep (h : RowR W t size R v l) (hk : ∀ g cs, Blk W g t cs → Blk W' g t cs) : RowR W' t size R v l := by
  obtain ⟨a, c, h1, h2, h3, h4⟩ := h
  refine ⟨a, c, h1, h2, h3, fun hn => ?_⟩
  obtain ⟨g, cs, e1, e2, e3⟩ := h4 hn
  exact ⟨g, cs, e1, hk g cs e2, e3⟩
theorem RowR.below (h : RowR W t size R v l) (hb : Below W.heap.size W W') : RowR W' t size R v l := h.keep fun g cs e => e.below hb e.lt
theorem RowR.alloc (h : RowR W t size R v l) (o : Obj) : RowR (W.alloc o) t size R v l := h.keep fun g cs e => e.alloc o
theorem RowR.set_ (h : RowR W t size R v l) {g i : Nat} {t' : TypeId} {cs' : Array Value} (hb : Blk W g t' cs') (hne : t ≠ t') (u : Value) : RowR (W.setCell ⟨g, i, none⟩ u) t size R v l :=
  h.keep fun g' cs e => e.far (p := ⟨g, i, none⟩) (fun e' => by subst e'; unfold Blk at e hb; rw [e] at hb; injection hb with hb; injection hb with _ e2 _; exact hne e2) u
theorem RowR.grown (h : RowR W t size R v l) {g : Nat} {t' : TypeId} {cs' : Array Value} (hg : W.grownBy W' (some g)) (hb : Blk W g t' cs') (hne : t ≠ t') : RowR W' t size R v l :=
  h.keep fun g' cs e => e.grown hg (fun e' => by injection e' with e'; subst e'; unfold Blk at e hb; rw [e] at hb; injection hb with hb; injection hb with _ e2 _; exact hne e2)
theorem RowR.read (h : RowR W t size R v l) : SlR W W.heap.size size R v l := by
  obtain ⟨a, c, h1, h2, h3, h4⟩ := h
  refine ⟨a, c, h1, h2, h3, fun hn => ?_⟩
  obtain ⟨g, cs, e1, e2, e3⟩ := h4 hn
  refine ⟨g, 0, e1, e2.lt, fun i y hy => ?_⟩
  obtain ⟨x, x1, x2, x3⟩ := e3 i y hy
  exact ⟨x, x1, x2, fun j u hu => by rw [Nat.zero_add]; exact e2.cell (x3 j u hu)⟩
theorem RowR.cut {a : Option Addr} {n c : Nat} (h : RowR W t size R (.slice a (n + 1) c) l) : RowR W t size R (.slice a n c) l.dropLast := by
  obtain ⟨a', c', h1, h2, h3, h4⟩ := h
  injection h1 with e1 e2 e3
  subst e1 e3
  have hl : l.dropLast.length = n := by simp; omega
  refine ⟨a, c, by rw [hl], by omega, h3, fun hn => ?_⟩
  obtain ⟨g, cs, e1, e2, e3⟩ := h4 (by omega)
  refine ⟨g, cs, e1, e2, fun i y hy => e3 i y ?_⟩
  rw [List.getElem?_dropLast] at hy
  split at hy
  · exact hy
  · cases hy
theorem RowR.of_own {base : Nat} (h : Own1 W base t size R v l) (hs : 0 < size) : RowR W t size R v l := by
  obtain ⟨xs, ⟨h1, h2⟩, h3, h4⟩ := h
  rcases h2 with ⟨h2, h5⟩ | ⟨g, cap, cur, r1, r2, r3, r4, r5, r6, r7⟩
  · refine ⟨none, 0, by rw [h2, h5], by omega, by decide, fun hn => by omega⟩
  · refine ⟨some ⟨g, 0, none⟩, cap, r1, r4, r5, fun hn => ⟨g, cur, rfl, r3, fun i y hy => ?_⟩⟩
    have hi : i < l.length := by
      rcases Nat.lt_or_ge i l.length with h | h
      · exact h
      · rw [List.getElem?_eq_none h] at hy; cases hy
    have hR := h4 i y hy
    refine ⟨_, ?_, hR, fun j u hu => ?_⟩
    · have : i * size + size ≤ xs.length := by
        rw [h3]
        calc i * size + size = (i + 1) * size := by rw [Nat.succ_mul]
          _ ≤ l.length * size := Nat.mul_le_mul_right _ hi
      rw [List.length_take, List.length_drop]
      omega
    · have hj : j < size := by
        have := (List.getElem?_eq_some_iff.1 hu).1
        rw [List.length_take] at this
        omega
      have hx : xs[i * size + j]? = some u := by
        rw [List.getElem?_take_of_lt hj, List.getElem?_drop] at hu
        exact hu
      rw [← r7, List.getElem?_take] at hx
      split at hx
      · simpa using hx
      · cases hx
theorem RowR.last {a : Option Addr} {n c : Nat} {y : α} (h : RowR W t size R (.slice a (n + 1) c) l) (hy : l.getLast? = some y) :
    ∃ g x, a = some ⟨g, 0, none⟩ ∧ x.length = size ∧ R x y ∧ ∀ (j : Nat) (u : Value), x[j]? = some u → W.cell? ⟨g, n * size + j, none⟩ = some u := by
  obtain ⟨a', c', h1, h2, h3, h4⟩ := h
  injection h1 with e1 e2 e3
  subst e1 e3
  obtain ⟨g, cs, e1, e4, e5⟩ := h4 (by omega)
  rw [List.getLast?_eq_getElem?] at hy
  obtain ⟨x, x1, x2, x3⟩ := e5 _ y hy
  rw [← e2] at x3
  exact ⟨g, x, e1, x1, x2, fun j u hu => e4.cell (by simpa using x3 j u hu)⟩
end
def LoopIs (x : List Value) (d : Int × Int) : Prop := x = [.int .i64 d.1, .int .i64 d.2] ∧ (Lit.int .i64 d.1).wf = true ∧ (Lit.int .i64 d.2).wf = true
def PlR (tp tl : TypeId) (W : World) (g : Nat) (l : List Pl) : Prop :=
  (tp ≠ tl) ∧ ∃ cs, Blk W g tp cs ∧ cs.size = l.length * 3 ∧ ∀ (i : Nat) (p : Pl), l[i]? = some p → ∃ v : Value, cs[i * 3]? = some (.bool p.known) ∧ cs[i * 3 + 1]? = some (.int .i64 p.height) ∧ cs[i * 3 + 2]? = some v ∧ RowR W tl 2 LoopIs v (p.loops)
section
variable {tp tl : TypeId} {W W' : World} {g : Nat} {l : List Pl}
theorem PlR.lt (h : PlR tp tl W g l) : g < W.heap.size := by
  obtain ⟨_, cs, h1, _⟩ := h
  exact h1.lt
theorem PlR.blk (h : PlR tp tl W g l) : ∃ cs, Blk W g tp cs := by
  obtain ⟨_, cs, h1, _⟩ := h
  exact ⟨cs, h1⟩
theorem PlR.at_ (h : PlR tp tl W g l) {i : Nat} {p : Pl} (hp : l[i]? = some p) : ∃ v : Value, W.cell? ⟨g, i * 3, none⟩ = some (.bool p.known) ∧ W.cell? ⟨g, i * 3 + 1, none⟩ = some (.int .i64 p.height) ∧ W.cell? ⟨g, i * 3 + 2, none⟩ = some v ∧ RowR W tl 2 LoopIs v (p.loops) := by
  obtain ⟨_, cs, h1, _, h3⟩ := h
  obtain ⟨v, e0, e1, c0, h4⟩ := h3 i p hp
  exact ⟨v, h1.cell e0, h1.cell e1, h1.cell c0, h4⟩
theorem PlR.froz (h : PlR tp tl W g l) (i : Nat) : W.frozen? ⟨g, i, none⟩ = false := by
  obtain ⟨_, cs, h1, _⟩ := h
  exact h1.frozen i
theorem PlR.keep (h : PlR tp tl W g l) (hb : ∀ cs, Blk W g tp cs → Blk W' g tp cs) (hk : ∀ t g cs, tp ≠ t → Blk W g t cs → Blk W' g t cs) : PlR tp tl W' g l := by
  obtain ⟨hd, cs, h1, h2, h3⟩ := h
  have d0 := hd
  refine ⟨hd, cs, hb cs h1, h2, fun i p hp => ?_⟩
  obtain ⟨v, e0, e1, c0, r0⟩ := h3 i p hp
  exact ⟨v, e0, e1, c0, r0.keep (fun g cs e => hk _ g cs d0 e)⟩
theorem PlR.below (h : PlR tp tl W g l) (hb : Below W.heap.size W W') : PlR tp tl W' g l := h.keep (fun cs e => e.below hb e.lt) (fun t g cs _ e => e.below hb e.lt)
theorem PlR.alloc (h : PlR tp tl W g l) (o : Obj) : PlR tp tl (W.alloc o) g l := h.keep (fun cs e => e.alloc o) (fun t g cs _ e => e.alloc o)
theorem PlR.set_ (h : PlR tp tl W g l) {i : Nat} (hi : i < l.length) (h' : Int) {v : Value} {ls : List (Int × Int)} (r0 : RowR W tl 2 LoopIs v (ls)) : PlR tp tl (((W.setCell ⟨g, i * 3, none⟩ (.bool true)).setCell ⟨g, i * 3 + 1, none⟩ (.int .i64 h')).setCell ⟨g, i * 3 + 2, none⟩ v) g (l.set i ⟨true, h', ls⟩) := by
  obtain ⟨hd, cs, hb0, h2, h3⟩ := h
  have d0 := hd
  have b1 := hb0.set_ (i * 3) (.bool true)
  have b2 := b1.set_ (i * 3 + 1) (.int .i64 h')
  have b3 := b2.set_ (i * 3 + 2) v
  refine ⟨hd, _, b3, by simpa using h2, fun j p hp => ?_⟩
  by_cases hj : j = i
  · subst hj
    rw [List.getElem?_set_self (by simpa using hi)] at hp
    injection hp with hp
    subst hp
    have hs : j * 3 + 2 < cs.size := by rw [h2]; omega
    refine ⟨v, ?_, ?_, ?_, (((r0).set_ hb0 d0.symm _).set_ b1 d0.symm _).set_ b2 d0.symm _⟩
    all_goals simp [Array.getElem?_setIfInBounds, hs]
    all_goals omega
  · rw [List.getElem?_set_ne (by omega)] at hp
    obtain ⟨v', e0, e1, c0, q0⟩ := h3 j p hp
    have hne : ∀ a b, a < 3 → b < 3 → i * 3 + a ≠ j * 3 + b := fun a b ha hb => by omega
    refine ⟨v', ?_, ?_, ?_, (((q0).set_ hb0 d0.symm _).set_ b1 d0.symm _).set_ b2 d0.symm _⟩
    · rw [Array.getElem?_setIfInBounds_ne (by omega), Array.getElem?_setIfInBounds_ne (by omega), Array.getElem?_setIfInBounds_ne (by omega)]; exact e0
    · rw [Array.getElem?_setIfInBounds_ne (by omega), Array.getElem?_setIfInBounds_ne (by omega), Array.getElem?_setIfInBounds_ne (by omega)]; exact e1
    · rw [Array.getElem?_setIfInBounds_ne (by omega), Array.getElem?_setIfInBounds_ne (by omega), Array.getElem?_setIfInBounds_ne (by omega)]; exact c0
end
theorem grown_set (W : World) (g i : Nat) (u : Value) : W.grownBy (W.setCell ⟨g, i, none⟩ u) (some g) := by
  have h := (Below.refl g W).setCell (p := ⟨g, i, none⟩) zL u
  exact ⟨h.os, h.tape, h.output, h.size, fun k _ hne => Below.heap_setCell W ⟨g, i, none⟩ u k (fun e => hne (by rw [e]))⟩
theorem grown_below {W w' : World} (h : Below W.heap.size W w') (r : Option Nat) : W.grownBy w' r := ⟨h.os, h.tape, h.output, h.size, fun k hk _ => h.block k hk⟩
theorem grown_trans {W w1 w2 : World} {r : Option Nat} (h : W.grownBy w1 r) (k : w1.grownBy w2 r) : W.grownBy w2 r :=
  ⟨k.os.trans h.os, k.tape.trans h.tape, k.output.trans h.output, Nat.le_trans h.size k.size, fun j hj hne => (k.block j (Nat.lt_of_lt_of_le hj h.size) hne).trans (h.block j hj hne)⟩
theorem below_grown {w W w' : World} {g B : Nat} (h : Below B w W) (hs : B ≤ W.heap.size) (hg : W.grownBy w' (some g)) (hge : B ≤ g) : Below B w w' :=
  ⟨hg.os.trans h.os, hg.tape.trans h.tape, hg.output.trans h.output, Nat.le_trans h.size hg.size, fun k hk => (hg.block k (Nat.lt_of_lt_of_le hk hs) (fun e => by injection e with e; omega)).trans (h.block k hk)⟩
end Go.Proofs.YtdkoafmgenbkbaaGreatDoor
namespace Go.Proofs.YtdkoafmgenbkbaaGreatDoor
open Go.RowKit
def quoteN (l : List Nat) : List Nat := 34 :: l.flatMap formN ++ [34]
theorem info_byte : (Tryz.prog.info? 5).map (fun i => (i.zero, i.size, i.bytes)) = some (some (.int .u8 0), 1, 1) := by kernel_rfl
theorem formN_bytes (c : Nat) (hc : c < 256) : Bytes (formN c) := by
  intro n hn
  rcases form_cases c with ⟨_, h⟩ | ⟨_, h⟩ | ⟨_, h⟩ | ⟨_, _, _, _, h⟩ | ⟨_, h⟩ <;> rw [h] at hn <;> simp at hn
  · omega
  · omega
  · omega
  · omega
  · have h1 := hexN_lt (c / 16) (by omega)
    have h2 := hexN_lt (c % 16) (by omega)
    omega
theorem flat_len : ∀ (l : List Nat), (l.flatMap formN).length ≤ 4 * l.length
  | [] => by simp
  | c :: l => by
    have := flat_len l
    have := (form_len c).2
    simp only [List.flatMap_cons, List.length_append, List.length_cons]
    omega
theorem take_flat {l : List Nat} {k c : Nat} (h : l[k]? = some c) : 34 :: (l.take (k + 1)).flatMap formN = (34 :: (l.take k).flatMap formN) ++ formN c := by
  have hk := (List.getElem?_eq_some_iff.1 h).1
  rw [List.take_succ_eq_append_getElem hk, (List.getElem?_eq_some_iff.1 h).2, List.flatMap_append]
  simp
theorem quote_bytes {l : List Nat} (h : Bytes l) : Bytes (quoteN l) := by
  intro n hn
  simp only [quoteN, List.cons_append, List.mem_cons, List.mem_append, List.mem_flatMap, List.not_mem_nil, or_false] at hn
  rcases hn with rfl | ⟨c, hc, hn⟩ | rfl
  · omega
  · exact formN_bytes c (h c hc) n hn
  · omega
theorem bits_and (n : Nat) (hn : n < 256) : bits .and .u8 (n : Int) 15 = ((n % 16 : Nat) : Int) := by
  have : ∀ n : Fin 256, bits .and .u8 (n.1 : Int) 15 = ((n.1 % 16 : Nat) : Int) := by decide +kernel
  exact this ⟨n, hn⟩
theorem hidden_of (c : Nat) (b : Bool) (hb : hiddenN c = b) (w : World) : Calls Tryz.prog 56 #[.int .u8 (c : Int)] w fun e w' => e = .returned (.bool b) ∧ Quiet w w' := hb ▸ hidden_any c w
theorem quote_any (s : ByteArray) (hs : s.size ≤ 1048576) (w : World) : Calls Tryz.prog 33 #[.string s] w fun e w' => e = .returned (.string (txt (quoteN (bs s)))) ∧ Below w.heap.size w w' := by
  obtain ⟨j, hi, hz, hsz, hby⟩ := info_parts info_byte
  have I := zH (And.intro hi (And.intro hz (And.intro hsz hby)))
  clear hi hz hsz hby
  obtain ⟨n, hn⟩ : ∃ n, s.size = n := ⟨_, rfl⟩
  have Hn := zH hn
  rw [hn] at hs
  have hn' : (s.size : Int) = (n : Int) := by rw [hn]
  clear hn
  go_enter Tryz.func33, Tryz.ntmps33
  go_wp2_with fail
  go_loopw [3, 9] (fun o i wr => ∃ k : Nat, k ≤ n ∧ i = .int .i64 k ∧ Below w.heap.size w wr ∧ Hid (Own1 wr w.heap.size 5 1 IsByte o (34 :: ((bs s).take k).flatMap formN))) (fun _ i _ => n - (intOf i).toNat)
  case atStart =>
    exact ⟨0, Nat.zero_le _, rfl, (Below.refl _ w).alloc zL _, own_bytes (xs := [.int .u8 34]) rfl zL rfl (fun m hm => by simp at hm; omega) (by simp [maxLen]) 1 1 rfl rfl⟩
  case round =>
    obtain ⟨k, hk, rfl, hb, ho⟩ := hrel
    have b0 : (0 : Int) ≤ (k : Int) := Int.natCast_nonneg _
    by_cases hlt : k < n
    · have hlt' : k < s.size := by rw [Hn.out]; exact hlt
      obtain ⟨c, hc, c256⟩ := get_bs hlt'
      have i1 := fun W => index_txt W 9 Tryz.underlying9 hc .i64 _ rfl
      have hfl := flat_len ((bs s).take k)
      have htk := List.length_take_le k (bs s)
      have hlen : (34 :: ((bs s).take k).flatMap formN).length ≤ 1 + 4 * k := by rw [List.length_cons]; omega
      have Hlen := zH hlen
      have Htf := zH (take_flat hc)
      have hbz := hb.size
      clear hc hfl htk hlen
      by_cases c1 : c = 10
      · subst c1
        go_wp2_with (at_builtin
                     go_must (refine wpList_append_bytes rfl (.tmp 22) (.tmp 23) _ rfl w.heap.size (wr.heap.size + 1) 5 j Tryz.underlying52 I.out.1 I.out.2.1 I.out.2.2.1 I.out.2.2.2 (l := 34 :: ((bs s).take k).flatMap formN) (m := [92, 110]) u3 rfl (by exact ho.out.alloc _) (some ⟨wr.heap.size, 0, none⟩) 2 2 rfl (by exact bytes_row (xs := [.int .u8 92, .int .u8 110]) rfl rfl (fun m hm => by simp at hm; omega) (by simp [maxLen]) 2 2 rfl rfl) (by have := Hlen.out; omega) (by rw [World.size_alloc]; omega) ?_)
                     intro xa xn xc w4 hown hb4)
        go_roundw
        case rel => exact ⟨k + 1, by omega, by go_num, (hb.alloc (by omega) _).trans hb4, by rw [Htf.out]; exact hown⟩
        case measure => simp [intOf]; omega
      have e1 : ((c : Int) == 10) = false := by simp; omega
      by_cases c2 : hiddenN c = true
      · have Hh := zH (fun W => hidden_of c true c2 W)
        have hf := form_hidden c2
        rw [hf] at Htf
        clear hf c2
        have s1 : bits .and .u8 (c : Int) 15 = ((c % 16 : Nat) : Int) := bits_and c c256
        have i2 := fun W => index_hex W 9 Tryz.underlying9 (c / 16) (by omega) .u8 ((c : Int) / 16) (by omega)
        have i3 := fun W => index_hex W 9 Tryz.underlying9 (c % 16) (by omega) .u8 ((c : Int) % 16) (by omega)
        have x1 := hexN_lt (c / 16) (by omega)
        have x2 := hexN_lt (c % 16) (by omega)
        generalize hexN (c / 16) = q1 at *
        generalize hexN (c % 16) = q2 at *
        go_wp2_with (go_at_call 56; refine (Hh.out _).mono ?_; rintro e w1 ⟨rfl, qq⟩)
        have ho1 : Hid (Own1 w1 w.heap.size 5 1 IsByte u3 (34 :: ((bs s).take k).flatMap formN)) := by
          obtain ⟨q, rfl⟩ := qq
          exact ho.out.drewN q
        have hb1 : Below w.heap.size w w1 := by
          obtain ⟨q, rfl⟩ := qq
          exact below_drewN hb q
        have hz1 := hb1.size
        clear qq ho hb
        go_region_held3 (fun _ => True)
          (trivial)
          (first
            | (go_must (refine step_append_bytes rfl (.tmp 28) (.tmp 35) _ rfl w.heap.size (w1.heap.size + 1) 5 j Tryz.underlying52 I.out.1 I.out.2.1 I.out.2.2.1 I.out.2.2.2 (l := 34 :: ((bs s).take k).flatMap formN) (m := [92, 120, q1, q2]) u3 rfl (by exact (ho1.out.alloc _).drew) (some ⟨w1.heap.size, 0, none⟩) 4 4 rfl (by exact bytes_row (xs := [.int .u8 92, .int .u8 120, .int .u8 (q1 : Int), .int .u8 (q2 : Int)]) rfl rfl (fun m hm => by simp at hm; omega) (by simp [maxLen]) 4 4 rfl rfl) (by have := Hlen.out; omega) (by show _ ≤ (w1.alloc _).heap.size; rw [World.size_alloc]; omega) ?_)
               intro xa xn xc w4 hown hb4
               have hbb : Below w.heap.size w w4 := (hb1.alloc (by omega) _).drew.trans hb4
               clear hb4))
        all_goals
          go_wp2_with fail
          go_roundw
          case rel => exact ⟨k + 1, by omega, by go_num, hbb, by rw [Htf.out]; exact hown⟩
          case measure => simp [intOf]; omega
      have Hh := zH (fun W => hidden_of c false (by simpa using c2) W)
      simp only [hiddenN, decide_eq_true_eq] at c2
      by_cases c3 : c = 34 ∨ c = 92
      · have Hf : formN c = [92, c] := by rcases c3 with rfl | rfl <;> rfl
        rw [Hf] at Htf
        clear Hf c2
        rcases c3 with rfl | rfl
        all_goals
          go_wp2_with (first
            | (go_at_call 56; refine (Hh.out _).mono ?_; rintro e w1 ⟨rfl, qq⟩
               have ho1 : Hid (Own1 w1 w.heap.size 5 1 IsByte u3 (34 :: ((bs s).take k).flatMap formN)) := by
                 obtain ⟨q, rfl⟩ := qq
                 exact ho.out.drewN q
               have hb1 : Below w.heap.size w w1 := by
                 obtain ⟨q, rfl⟩ := qq
                 exact below_drewN hb q
               have hz1 := hb1.size
               clear qq ho hb)
            | (at_builtin
               go_must (refine wpList_append_bytes rfl (.tmp 44) (.tmp 46) _ rfl w.heap.size (w1.heap.size + 1) 5 j Tryz.underlying52 I.out.1 I.out.2.1 I.out.2.2.1 I.out.2.2.2 (l := 34 :: ((bs s).take k).flatMap formN) (m := [92, _]) u3 rfl (by exact ho1.out.alloc _) (some ⟨w1.heap.size, 0, none⟩) 2 2 rfl (by exact bytes_row (xs := [.int .u8 92, .int .u8 _]) rfl rfl (fun m hm => by simp at hm; omega) (by simp [maxLen]) 2 2 rfl rfl) (by have := Hlen.out; omega) (by rw [World.size_alloc]; omega) ?_)
               intro xa xn xc w4 hown hb4
               have hbb : Below w.heap.size w w4 := (hb1.alloc (by omega) _).trans hb4))
          go_roundw
          case rel => exact ⟨k + 1, by omega, by go_num, hbb, by rw [Htf.out]; exact hown⟩
          case measure => simp [intOf]; omega
      · have e2 : ((c : Int) == 34) = false := by simp; omega
        have e3 : ((c : Int) == 92) = false := by simp; omega
        have Hf : formN c = [c] := form_plain (by omega) (by omega) (by omega) (by omega)
        rw [Hf] at Htf
        clear Hf c2 c3
        go_wp2_with (first
            | (go_at_call 56; refine (Hh.out _).mono ?_; rintro e w1 ⟨rfl, qq⟩
               have ho1 : Hid (Own1 w1 w.heap.size 5 1 IsByte u3 (34 :: ((bs s).take k).flatMap formN)) := by
                 obtain ⟨q, rfl⟩ := qq
                 exact ho.out.drewN q
               have hb1 : Below w.heap.size w w1 := by
                 obtain ⟨q, rfl⟩ := qq
                 exact below_drewN hb q
               have hz1 := hb1.size
               clear qq ho hb)
            | (at_builtin
               go_must (refine wpList_append_bytes rfl (.tmp 15) (.tmp 17) _ rfl w.heap.size (w1.heap.size + 1) 5 j Tryz.underlying52 I.out.1 I.out.2.1 I.out.2.2.1 I.out.2.2.2 (l := 34 :: ((bs s).take k).flatMap formN) (m := [c]) u3 rfl (by exact ho1.out.alloc _) (some ⟨w1.heap.size, 0, none⟩) 1 1 rfl (by exact bytes_row (xs := [.int .u8 (c : Int)]) rfl rfl (fun m hm => by simp at hm; omega) (by simp [maxLen]) 1 1 rfl rfl) (by have := Hlen.out; omega) (by rw [World.size_alloc]; omega) ?_)
               intro xa xn xc w4 hown hb4
               have hbb : Below w.heap.size w w4 := (hb1.alloc (by omega) _).trans hb4))
        go_roundw
        case rel => exact ⟨k + 1, by omega, by go_num, hbb, by rw [Htf.out]; exact hown⟩
        case measure => simp [intOf]; omega
    · have hge : n ≤ k := by omega
      have hdec : decide (k < n) = false := by simp; omega
      clear hlt
      have hall : (bs s).take k = bs s := List.take_of_length_le (by rw [bs_len, Hn.out]; exact hge)
      rw [hall] at ho
      have hlen := flat_len (bs s)
      rw [bs_len, Hn.out] at hlen
      have Hlen := zH hlen
      have hbz := hb.size
      clear hall hlen
      go_wp2_with (at_builtin
                   go_must (refine wpList_append_bytes rfl (.tmp 49) (.tmp 50) _ rfl w.heap.size (wr.heap.size + 1) 5 j Tryz.underlying52 I.out.1 I.out.2.1 I.out.2.2.1 I.out.2.2.2 (l := 34 :: (bs s).flatMap formN) (m := [34]) u3 rfl (by exact ho.out.alloc _) (some ⟨wr.heap.size, 0, none⟩) 1 1 rfl (by exact bytes_row (xs := [.int .u8 34]) rfl rfl (fun m hm => by simp at hm; omega) (by simp [maxLen]) 1 1 rfl rfl) (by have := Hlen.out; rw [List.length_cons]; omega) (by rw [World.size_alloc]; omega) ?_)
                   intro xa xn xc w4 hown hb4
                   have hbb : Below w.heap.size w w4 := (hb.alloc (by omega) _).trans hb4
                   have hc := run_text_of_row 52 9 5 Tryz.underlying52 Tryz.underlying5 Tryz.underlying9 hown
                   clear hown hb4)
      go_ret
      exact ⟨rfl, hbb⟩
end Go.Proofs.YtdkoafmgenbkbaaGreatDoor
namespace Go.Proofs.YtdkoafmgenbkbaaGreatDoor
open Go.RowKit
def wordsC : List ByteArray := [⟨#[]⟩, ⟨#[115, 116, 101, 112]⟩, ⟨#[105, 110, 116]⟩, ⟨#[116, 101, 120, 116]⟩, ⟨#[116, 114, 117, 101]⟩, ⟨#[102, 97, 108, 115, 101]⟩, ⟨#[115, 101, 108, 102]⟩, ⟨#[110, 111, 110, 101]⟩, ⟨#[108, 111, 97, 100]⟩, ⟨#[102, 114, 101, 101]⟩, ⟨#[112, 114, 111, 112]⟩, ⟨#[107, 105, 100, 115]⟩, ⟨#[114, 101, 102]⟩, ⟨#[112, 97, 114, 101, 110, 116]⟩, ⟨#[105, 115]⟩, ⟨#[97, 108, 108]⟩, ⟨#[115, 105, 122, 101]⟩, ⟨#[102, 105, 114, 115, 116]⟩, ⟨#[115, 104, 111, 119]⟩, ⟨#[99, 111, 110, 99, 101, 112, 116]⟩, ⟨#[105, 100]⟩, ⟨#[114, 101, 97, 100]⟩, ⟨#[97, 100, 100]⟩, ⟨#[115, 117, 98]⟩, ⟨#[109, 117, 108]⟩, ⟨#[101, 113]⟩, ⟨#[110, 101]⟩, ⟨#[108, 116]⟩, ⟨#[108, 101]⟩, ⟨#[110, 111, 116]⟩, ⟨#[97, 110, 100]⟩, ⟨#[111, 114]⟩, ⟨#[116, 114, 117, 116, 104]⟩, ⟨#[117, 110, 108, 101, 115, 115]⟩, ⟨#[106, 117, 109, 112]⟩, ⟨#[97, 110, 121]⟩, ⟨#[101, 118, 101, 114, 121]⟩, ⟨#[111, 110, 108, 121]⟩, ⟨#[115, 117, 109]⟩, ⟨#[110, 101, 120, 116]⟩, ⟨#[116, 97, 107, 101]⟩]
def wordC (op : Int) : ByteArray := if 1 ≤ op ∧ op ≤ 40 then (wordsC[op.toNat]?).getD ⟨#[]⟩ else ⟨#[]⟩
def lineC (x : Ins) : List Nat := bs (wordC x.op) ++ (match hasN x.op with | 1 => 32 :: showN x.arg | 5 => 32 :: showN x.arg | 2 => 32 :: showN x.int | 3 => 32 :: quoteN (bs x.text) | 4 => 32 :: bs x.text | _ => [])
def textC (c : List Ins) : List Nat := c.flatMap (fun x => lineC x ++ [10])
def printC (c : List Ins) : List Nat × Nat := if (rightC c).2 ≠ 0 then ([], (rightC c).2) else if 1048576 < (textC c).length then ([], 3) else (textC c, 0)
end Go.Proofs.YtdkoafmgenbkbaaGreatDoor
namespace Go.Proofs.YtdkoafmgenbkbaaGreatDoor
open Go.RowKit Go.ChangeShapes Go.WideShapes Go.Deep
def Fit (n bytes : Nat) : Prop := n * bytes ≤ 140737488355328
end Go.Proofs.YtdkoafmgenbkbaaGreatDoor
namespace Go.Proofs.YtdkoafmgenbkbaaGreatDoor
open Go.RowKit
abbrev Loop := Int × Int
theorem neq_Loop (y z : Loop) (b : Bool) (h : decide (y = z) = !b) (W : World) : (binOp .neq 91 (.agg #[.int .i64 y.1, .int .i64 y.2]) (.agg #[.int .i64 z.1, .int .i64 z.2])).run Tryz.prog W = .ok (.bool b) W := by
  obtain ⟨y0, y1⟩ := y
  obtain ⟨z0, z1⟩ := z
  go_simp
  try simp only [toList_inj]
  cases b <;> simp at h
  all_goals first
    | (simp [h]; done)
    | (repeat' split
       all_goals simp_all)
theorem equal_Loop {l m : List Loop} {v v' : Value} (w w0 : World)
   (hs : SlR w0 w0.heap.size 2 LoopIs v l) (ht : SlR w0 w0.heap.size 2 LoopIs v' m) (hw : Below w0.heap.size w0 w) :
    Calls Tryz.prog 34 #[v, v'] w fun e w' => e = .returned (.bool (decide (l = m))) ∧ Quiet w w' := by
  obtain ⟨a, c, rfl⟩ : ∃ a c, v = .slice a l.length c := by obtain ⟨a, c, h, _⟩ := hs.form; exact ⟨a, c, h⟩
  obtain ⟨a', c', rfl⟩ : ∃ a c, v' = .slice a m.length c := by obtain ⟨a, c, h, _⟩ := ht.form; exact ⟨a, c, h⟩
  have hn : l.length ≤ 9223372036854775807 := by have := hs.caps; unfold maxLen at this; omega
  rw [← eqBy_eq]
  by_cases hl : l.length = m.length
  · obtain ⟨n, hlen⟩ : ∃ n, l.length = n := ⟨_, rfl⟩
    rw [← hl] at ht ⊢
    rw [hlen] at hs ht hn ⊢
    have Hlen := zH hlen
    have Hl := zH hl
    have Hs := zH hs
    have Ht := zH ht
    have Hw := zH hw
    clear hs ht hlen hw hl
    go_enter Tryz.func34, Tryz.ntmps34
    go_wp2_with fail
    go_loopw [4, 5, 13] (fun _ _ j wr => ∃ k : Nat, k ≤ n ∧ j = .int .i64 k ∧ Quiet w wr ∧ Hid (∀ i y z, i < k → l[i]? = some y → m[i]? = some z → (fun a b => decide (a = b)) y z = true)) (fun _ _ j _ => n - (intOf j).toNat)
    case atStart => exact ⟨0, Nat.zero_le _, rfl, Quiet.refl _, fun i d _ hi => by omega⟩
    case round =>
      obtain ⟨k, hk, rfl, hq, hf⟩ := hrel
      have hb := hq.below w.heap.size
      by_cases hlt : k < n
      · obtain ⟨y, hd⟩ := get_some Hlen.out hlt
        obtain ⟨z, he⟩ := get_some (Hl.out.symm.trans Hlen.out) hlt
        have hw1 := Hw.out.trans (hb.mono Hw.out.size)
        obtain ⟨b, off, x, rfl, hbB, hxl, ⟨rfl, _⟩, hx⟩ := (Hs.out.below hw1).at_ hd
        obtain ⟨b', off', x', rfl, hbB', hxl', ⟨rfl, _⟩, hx'⟩ := (Ht.out.below hw1).at_ he
        have h0 := hx 0 _ rfl
        have h1 := hx 1 _ rfl
        have g0 := hx' 0 _ rfl
        have g1 := hx' 1 _ rfl
        simp only [Nat.add_zero] at h0 g0
        have Hd := zH hd
        have He := zH he
        clear hd he hx hxl hx' hxl' hw1
        by_cases hyz : y = z
        · have hne := fun W => neq_Loop y z false (by simpa using hyz) W
          have Hyz := zH hyz
          clear hyz
          go_wp2_with fail
          go_quiet (fail)
          go_wp2_with fail
          go_roundw
          case rel => exact ⟨k + 1, by omega, by go_num, hq.drewN _, so_far Hd.out He.out (by simpa using Hyz.out) hf.out⟩
          case measure => simp [intOf]; omega
        · have hne := fun W => neq_Loop y z true (by simpa using hyz) W
          have Hyz := zH hyz
          clear hyz
          go_wp2_with fail
          go_quiet (fail)
          go_wp2_with fail
          go_ret
          exact ⟨by rw [eqBy_no _ l m k y z Hd.out He.out (by simpa using Hyz.out)]; rfl, hq.drewN _⟩
      · have hge : n ≤ k := by omega
        clear hlt
        go_wp2_with fail
        go_ret
        exact ⟨by rw [eqBy_yes _ l m Hl.out (fun i y z hi => hf.out i y z (by have := Hlen.out; omega))]; rfl, hq⟩
  · have hne : ((l.length : Int) != (m.length : Int)) = true := by rw [bne_iff_ne]; omega
    have Hl := zH hl
    clear hl hs ht hw
    go_enter Tryz.func34, Tryz.ntmps34
    go_wp2_with fail
    go_ret
    exact ⟨by rw [eqBy_len _ l m Hl.out]; rfl, Quiet.refl _⟩
theorem info_Loop : (Tryz.prog.info? 91).map (fun i => (i.zero, i.size, i.bytes)) = some (some (.agg #[.int .i64 0, .int .i64 0]), 2, 16) := by kernel_rfl
theorem LoopIs.one (x : List Value) (y : Loop) (hx : LoopIs x y) : ∀ u ∈ x, u.oneCell' = true := by
  intro u hu
  rw [hx.1] at hu
  simp at hu
  rcases hu with rfl | rfl <;> rfl
theorem clone_Loop {l : List Loop} {v : Value} (w w0 : World) (hs : SlR w0 w0.heap.size 2 LoopIs v l) (hfit : Fit l.length 16) (hw : Below w0.heap.size w0 w) :
    Calls Tryz.prog 37 #[v] w fun e w' => ∃ a c, e = .returned (.slice a l.length c) ∧ Own1 w' w.heap.size 91 2 LoopIs (.slice a l.length c) l ∧ Below w.heap.size w w' := by
  obtain ⟨a, n, c, rfl⟩ := hs.form'
  have hn := hs.len
  have hcap := hs.caps
  have hby : n * 16 ≤ 140737488355328 := by unfold Fit at hfit; rw [hn]; exact hfit
  have Hs := zH hs
  have Hw := zH hw
  have Hcap := zH hcap
  have Hn := zH hn
  obtain ⟨j, hi, hz, hsz, hb⟩ := info_parts info_Loop
  have I := zH (And.intro hi (And.intro hz (And.intro hsz hb)))
  clear hi hz hsz hb hfit hw hcap
  have hq := fun W => Lib.run_eql_slice_nil (P := Tryz.prog) W 67 91 a n c 0 0 Tryz.underlying67
  rcases a with _ | ad
  · have h0 : l.length = 0 := by
      obtain ⟨a', c', he, _, _, h3⟩ := hs
      rcases Nat.eq_zero_or_pos l.length with h | h
      · exact h
      · obtain ⟨b, off, ha, _⟩ := h3 h
        injection he with e1 _ _
        rw [← e1] at ha
        cases ha
    have hl : l = [] := List.eq_nil_of_length_eq_zero h0
    have HL := zH hl
    clear hs hn h0 hl
    go_enter Tryz.func37, Tryz.ntmps37
    go_wp2_with fail
    go_ret
    refine ⟨none, 0, ?_, ?_, zB⟩
    · rw [HL.out]; rfl
    · rw [HL.out]; exact ⟨[], World.ownsRow_nil _ _ _ _, FlatR.nil_⟩
  · clear hs hn
    go_enter Tryz.func37, Tryz.ntmps37
    go_wp2_with (at_builtin
                 go_must (refine wpList_append_list rfl (.tmp 5) (.tmp 6) _ rfl w.heap.size w0.heap.size 91 j _ 2 16 Tryz.underlying67 I.out.1 I.out.2.1 I.out.2.2.1 I.out.2.2.2 rfl (by omega) (R := LoopIs) (l := []) (m := l) (.slice (some ⟨w.heap.size, 0, none⟩) 0 0) rfl (by exact Own1.empty rfl zL) (some ad) n c rfl (by exact Hs.out.below (Hw.out.alloc Hw.out.size _)) n (by simp) LoopIs.one (by have := Hcap.out; simp; omega) (by simpa using hby) (by rw [World.size_alloc]; omega) ?_)
                 intro xa xc w4 hown hgrow
                 have H4 := zH (And.intro hown hgrow)
                 clear hown hgrow)
    go_ret
    obtain ⟨hown, hgrow⟩ := H4.out
    refine ⟨xa, xc, by rw [← Hn.out]; rfl, ?_, (zB.alloc zL _).grown hgrow (by rw [World.size_alloc]; omega) (fun g hg => Nat.le_of_eq (Option.some.inj hg))⟩
    rw [← Hn.out]
    simpa using hown
def whatC (k : Nat) : Int := match k with | 0 => 45 | 1 => 97 | 2 => 105 | 3 => 116 | 4 => 110 | _ => 112
theorem what_any (op : Int) (h1 : 1 ≤ op) (h2 : op ≤ 40) (w : World) : Calls Tryz.prog 31 #[.int .i64 op] w fun e w' => e = .returned (.int .u8 (whatC (hasN op))) ∧ Quiet w w' := by
  rcases (by omega : op = 1 ∨ op = 2 ∨ op = 3 ∨ op = 4 ∨ op = 5 ∨ op = 6 ∨ op = 7 ∨ op = 8 ∨ op = 9 ∨ op = 10 ∨ op = 11 ∨ op = 12 ∨ op = 13 ∨ op = 14 ∨ op = 15 ∨ op = 16 ∨ op = 17 ∨ op = 18 ∨ op = 19 ∨ op = 20 ∨ op = 21 ∨ op = 22 ∨ op = 23 ∨ op = 24 ∨ op = 25 ∨ op = 26 ∨ op = 27 ∨ op = 28 ∨ op = 29 ∨ op = 30 ∨ op = 31 ∨ op = 32 ∨ op = 33 ∨ op = 34 ∨ op = 35 ∨ op = 36 ∨ op = 37 ∨ op = 38 ∨ op = 39 ∨ op = 40) with rfl | rfl | rfl | rfl | rfl | rfl | rfl | rfl | rfl | rfl | rfl | rfl | rfl | rfl | rfl | rfl | rfl | rfl | rfl | rfl | rfl | rfl | rfl | rfl | rfl | rfl | rfl | rfl | rfl | rfl | rfl | rfl | rfl | rfl | rfl | rfl | rfl | rfl | rfl | rfl
  all_goals clear h1 h2
  all_goals go_enter Tryz.func31, Tryz.ntmps31
  all_goals go_wp2_with fail
  all_goals go_ret
  all_goals exact ⟨rfl, Quiet.refl _⟩
def needsN (op : Int) : Int := if op ≤ 9 ∨ op = 34 ∨ op = 39 then 0 else if 22 ≤ op ∧ op ≤ 28 then 2 else 1
theorem needs_any (op : Int) (h1 : 1 ≤ op) (h2 : op ≤ 40) (w : World) : Calls Tryz.prog 36 #[.int .i64 op] w fun e w' => e = .returned (.int .i64 (needsN op)) ∧ Quiet w w' := by
  rcases (by omega : op = 1 ∨ op = 2 ∨ op = 3 ∨ op = 4 ∨ op = 5 ∨ op = 6 ∨ op = 7 ∨ op = 8 ∨ op = 9 ∨ op = 10 ∨ op = 11 ∨ op = 12 ∨ op = 13 ∨ op = 14 ∨ op = 15 ∨ op = 16 ∨ op = 17 ∨ op = 18 ∨ op = 19 ∨ op = 20 ∨ op = 21 ∨ op = 22 ∨ op = 23 ∨ op = 24 ∨ op = 25 ∨ op = 26 ∨ op = 27 ∨ op = 28 ∨ op = 29 ∨ op = 30 ∨ op = 31 ∨ op = 32 ∨ op = 33 ∨ op = 34 ∨ op = 35 ∨ op = 36 ∨ op = 37 ∨ op = 38 ∨ op = 39 ∨ op = 40) with rfl | rfl | rfl | rfl | rfl | rfl | rfl | rfl | rfl | rfl | rfl | rfl | rfl | rfl | rfl | rfl | rfl | rfl | rfl | rfl | rfl | rfl | rfl | rfl | rfl | rfl | rfl | rfl | rfl | rfl | rfl | rfl | rfl | rfl | rfl | rfl | rfl | rfl | rfl | rfl
  all_goals clear h1 h2
  all_goals go_enter Tryz.func36, Tryz.ntmps36
  all_goals go_wp2_with fail
  all_goals go_ret
  all_goals exact ⟨rfl, Quiet.refl _⟩
end Go.Proofs.YtdkoafmgenbkbaaGreatDoor
