/- imports - - - - - - - - -/
import Derived.Below
import Derived.BigQuiet
import Derived.BigRegion
import Derived.ChangeOld
import Derived.Deep.AppendLies
import Derived.Deep.Cut
import Derived.Deep.DeepHandedRow
import Derived.Deep.Draws
import Derived.Deep.Fields
import Derived.Deep.LoopGhost
import Derived.Deep.QuietTactic
import Derived.Deep.RegionHeld2
import Derived.Deep.RegionHeld3
import Derived.Deep.RegionLaw
import Derived.Deep.Slices
import Derived.Deep.Strs
import Derived.Defers
import Derived.IntWalk
import Derived.JoinedCond
import Derived.Laws.BytesString
import Derived.Laws.EntriesVeiled
import Derived.Laws.IdiomStrings
import Derived.Laws.Pointers
import Derived.Laws.Rows
import Derived.Lib.AppendStr
import Derived.Lib.Builder
import Derived.Lib.FrozenHead
import Derived.Lib.Hide
import Derived.Lib.ItoaNum
import Derived.Lib.LaidTab
import Derived.Lib.ParseIntB
import Derived.Maps.AppendAt
import Derived.OpenShut
import Derived.Outline
import Derived.OwnWalk
import Derived.ProofKit
import Derived.Recover
import Derived.RegionTactic
import Derived.ShutString
import Derived.StillTailTactics
import Derived.Stop.LaidErr
import Derived.Tactics
import Derived.Tactics2
import Derived.WalkKit
import Derived.WalkMore
import Derived.WalkSmall
import Derived.WalkSpells
import Derived.Test.YtpkggobhhieeoaaDoorProg
import Derived.Test.YtpkggobhhieeoaaDoorCards
import Derived.Test.YtpkggobhhieeoaaDoorTie
set_option maxRecDepth 100000
set_option maxHeartbeats 32000000
set_option linter.unusedSimpArgs false
set_option linter.unusedVariables false
namespace Go.Proofs.YtpkggobhhieeoaaDoor
open Go.RowKit
theorem zH {p : Prop} (h : p) : Hid p := h
theorem zB {B : Nat} {w : World} : Below B w w := Below.refl B w
theorem zL {n : Nat} : n ≤ n := Nat.le_refl n
end Go.Proofs.YtpkggobhhieeoaaDoor
namespace Go.Proofs.YtpkggobhhieeoaaDoor
open Go.RowKit Go.ChangeShapes Go.WideShapes Go.Deep
def SlR {α : Type} (w : World) (B size : Nat) (R : List Value → α → Prop) (v : Value) (l : List α) : Prop :=
  ∃ (a : Option Addr) (c : Nat), v = .slice a l.length c ∧ l.length ≤ c ∧ c ≤ maxLen ∧
    (0 < l.length → ∃ b off, a = some ⟨b, off, none⟩ ∧ b < B ∧ ∀ (i : Nat) (y : α), l[i]? = some y → ∃ x : List Value, x.length = size ∧ R x y ∧ ∀ (j : Nat) (u : Value), x[j]? = some u → w.cell? ⟨b, off + i * size + j, none⟩ = some u)
section
variable {α : Type} {w w' : World} {B B' size : Nat} {R R' : List Value → α → Prop} {v : Value} {l : List α}
theorem SlR.nil_ (c : Nat) (hc : c ≤ maxLen) (a : Option Addr) : SlR w B size R (.slice a 0 c) ([] : List α) := ⟨a, c, rfl, Nat.zero_le _, hc, fun h => absurd h (by simp)⟩
theorem SlR.keep (h : SlR w B size R v l) (hk : ∀ p : Addr, p.block < B → w'.cell? p = w.cell? p) (hR : ∀ x y, R x y → R' x y) (hB : B ≤ B') : SlR w' B' size R' v l := by
  obtain ⟨a, c, rfl, h1, h2, h3⟩ := h
  refine ⟨a, c, rfl, h1, h2, fun hl => ?_⟩
  obtain ⟨b, off, ha, hb, hc⟩ := h3 hl
  refine ⟨b, off, ha, by omega, fun i y hy => ?_⟩
  obtain ⟨x, hx1, hx2, hx3⟩ := hc i y hy
  exact ⟨x, hx1, hR _ _ hx2, fun j u hu => (hk ⟨b, _, none⟩ hb).trans (hx3 j u hu)⟩
theorem SlR.below (h : SlR w B size R v l) (hb : Below B w w') : SlR w' B size R v l := h.keep (fun _ hp => hb.cell hp) (fun _ _ r => r) zL
theorem SlR.more (h : SlR w B size R v l) (hB : B ≤ B') : SlR w B' size R v l := h.keep (fun _ _ => rfl) (fun _ _ r => r) hB
theorem SlR.imp (h : SlR w B size R v l) (hR : ∀ x y, R x y → R' x y) : SlR w B size R' v l := h.keep (fun _ _ => rfl) hR zL
theorem SlR.form (h : SlR w B size R v l) : ∃ (a : Option Addr) (c : Nat), v = .slice a l.length c ∧ l.length ≤ c ∧ c ≤ maxLen := by
  obtain ⟨a, c, h0, h1, h2, _⟩ := h
  exact ⟨a, c, h0, h1, h2⟩
theorem SlR.at_ {k : Nat} {y : α} {a : Option Addr} {n c : Nat} (h : SlR w B size R (.slice a n c) l) (hy : l[k]? = some y) :
    ∃ b off x, a = some ⟨b, off, none⟩ ∧ b < B ∧ x.length = size ∧ R x y ∧ ∀ (j : Nat) (u : Value), x[j]? = some u → w.cell? ⟨b, off + k * size + j, none⟩ = some u := by
  obtain ⟨a', c', hv, h1, h2, h3⟩ := h
  have hl : k < l.length := (List.getElem?_eq_some_iff.1 hy).1
  obtain ⟨b, off, ha, hb, hc⟩ := h3 (by omega)
  obtain ⟨x, hx⟩ := hc k y hy
  injection hv with e1 e2 e3
  exact ⟨b, off, x, e1.trans ha, hb, hx.1, hx.2.1, hx.2.2⟩
theorem SlR.len {a : Option Addr} {n c : Nat} (h : SlR w B size R (.slice a n c) l) : n = l.length := by
  obtain ⟨_, _, hv, _⟩ := h
  injection hv
theorem SlR.caps {a : Option Addr} {n c : Nat} (h : SlR w B size R (.slice a n c) l) : n ≤ c ∧ c ≤ maxLen := by
  obtain ⟨_, _, hv, h1, h2, _⟩ := h
  injection hv with _ e2 e3
  subst e2 e3
  exact ⟨h1, h2⟩
end
section
variable {H : Type} {enc : TypeId × Value → H} {P : Program} {w : World} {base : Nat} {spare : Nat → Bool} {held : Bool}
theorem cell_lt {w : World} {p : Addr} {u : Value} (h : w.cell? p = some u) : p.block < w.heap.size := by
  rcases Nat.lt_or_ge p.block w.heap.size with hlt | hge
  · exact hlt
  · rw [World.cell?, Array.getElem?_eq_none hge] at h
    cases h
end
theorem toList_inj (a b : ByteArray) : a.toList = b.toList ↔ a = b := by
  rw [ByteArray.toList_eq, ByteArray.toList_eq]
  constructor
  · intro h
    obtain ⟨⟨x⟩⟩ := a
    obtain ⟨⟨y⟩⟩ := b
    simp at h
    simp [h]
  · intro h; rw [h]
theorem get_some {α : Type} {l : List α} {k n : Nat} (hl : l.length = n) (h : k < n) : ∃ d, l[k]? = some d := ⟨_, List.getElem?_eq_getElem (by rw [hl]; exact h)⟩
theorem below_drewN {B : Nat} {a w : World} (h : Below B a w) (n : Nat) : Below B a (w.drewN n) := ⟨h.os, h.tape, h.output, h.size, h.block⟩
def Quiet (w w' : World) : Prop := ∃ n, w' = w.drewN n
theorem Quiet.refl (w : World) : Quiet w w := ⟨0, rfl⟩
theorem Quiet.drewN {a w : World} (h : Quiet a w) (n : Nat) : Quiet a (w.drewN n) := by
  obtain ⟨k, rfl⟩ := h
  exact ⟨k + n, by rw [World.drewN_drewN]⟩
theorem Quiet.trans {a b c : World} (h : Quiet a b) (k : Quiet b c) : Quiet a c := by
  obtain ⟨n, rfl⟩ := k
  exact h.drewN n
theorem Quiet.below {a w : World} (h : Quiet a w) (B : Nat) : Below B a w := by
  obtain ⟨n, rfl⟩ := h
  exact below_drewN zB n
theorem SlR.form' {α : Type} {w : World} {B size : Nat} {R : List Value → α → Prop} {v : Value} {l : List α} (h : SlR w B size R v l) : ∃ (a : Option Addr) (n c : Nat), v = .slice a n c := by
  obtain ⟨a, c, h0, _⟩ := h
  exact ⟨a, _, c, h0⟩
theorem quiet_call {P : Program} {f : FuncId} {args : Array Value} {w : World} {n : Nat} {b c : Bool} (h : Calls P f args (w.drewN n) fun e w' => e = .returned (.bool b) ∧ Quiet (w.drewN n) w') (hb : b = c) :
    Calls P f args (w.drewN n) fun e w'' => e = .returned (.bool c) ∧ ∃ m, w'' = w.drewN m := by
  subst hb
  exact h.mono fun _ _ ⟨he, m, hm⟩ => ⟨he, n + m, by rw [hm, World.drewN_drewN]⟩
theorem below2 {B : Nat} {w : World} {o : Obj} (h : B ≤ w.heap.size) : B ≤ (w.alloc o).heap.size := by simp; omega
theorem len2 {x : List Value} (h : x.length = 2) : ∃ u0 u1, x = [u0, u1] := by
  match x, h with
  | [u0, u1], _ => exact ⟨_, _, rfl⟩
end Go.Proofs.YtpkggobhhieeoaaDoor
namespace Go.Proofs.YtpkggobhhieeoaaDoor
open Go.RowKit
def FlatR {α : Type} (size : Nat) (R : List Value → α → Prop) (xs : List Value) (l : List α) : Prop :=
  xs.length = l.length * size ∧ ∀ (i : Nat) (y : α), l[i]? = some y → R ((xs.drop (i * size)).take size) y
theorem FlatR.nil_ {α : Type} {size : Nat} {R : List Value → α → Prop} : FlatR size R [] ([] : List α) := ⟨by simp, fun i y h => by simp at h⟩
theorem FlatR.app {α : Type} {size : Nat} {R : List Value → α → Prop} {xs ys : List Value} {l m : List α} (h : FlatR size R xs l) (k : FlatR size R ys m) : FlatR size R (xs ++ ys) (l ++ m) := by
  refine ⟨by rw [List.length_append, h.1, k.1, List.length_append, Nat.add_mul], fun i y hy => ?_⟩
  rcases Nat.lt_or_ge i l.length with hi | hi
  · rw [List.getElem?_append_left hi] at hy
    have hle : i * size + size ≤ xs.length := by
      rw [h.1]
      calc i * size + size = (i + 1) * size := by rw [Nat.succ_mul]
        _ ≤ l.length * size := Nat.mul_le_mul_right _ hi
    rw [List.drop_append_of_le_length (by omega), List.take_append_of_le_length (by rw [List.length_drop]; omega)]
    exact h.2 i y hy
  · rw [List.getElem?_append_right hi] at hy
    have e : (xs ++ ys).drop (i * size) = ys.drop ((i - l.length) * size) := by
      have : i * size = xs.length + (i - l.length) * size := by rw [h.1, ← Nat.add_mul]; congr 1; omega
      rw [this, List.drop_append, List.drop_of_length_le (by omega), Nat.add_sub_cancel_left, List.nil_append]
    rw [e]
    exact k.2 _ y hy
theorem FlatR.one {α : Type} {size : Nat} {R : List Value → α → Prop} {xs : List Value} {y : α} (hl : xs.length = size) (h : R xs y) : FlatR size R xs [y] := by
  refine ⟨by simp [hl], fun i z hz => ?_⟩
  rcases i with _ | i
  · simp at hz
    subst hz
    rw [Nat.zero_mul, List.drop_zero, List.take_of_length_le (by omega)]
    exact h
  · simp at hz
theorem FlatR.imp {α : Type} {size : Nat} {R R' : List Value → α → Prop} {xs : List Value} {l : List α} (h : FlatR size R xs l) (hR : ∀ x y, R x y → R' x y) : FlatR size R' xs l := ⟨h.1, fun i y hy => hR _ _ (h.2 i y hy)⟩
def Own1 {α : Type} (w : World) (base : Nat) (e : TypeId) (size : Nat) (R : List Value → α → Prop) (v : Value) (l : List α) : Prop :=
  ∃ xs, w.ownsRow base e size v l.length xs ∧ FlatR size R xs l
section
variable {α : Type} {w w' : World} {base size : Nat} {e : TypeId} {R R' : List Value → α → Prop} {v : Value} {l : List α}
theorem Own1.alloc (h : Own1 w base e size R v l) (o : Obj) : Own1 (w.alloc o) base e size R v l := by
  obtain ⟨xs, h1, h2⟩ := h
  exact ⟨xs, h1.alloc o, h2⟩
theorem Own1.drew (h : Own1 w base e size R v l) : Own1 w.drew base e size R v l := h
theorem Own1.drewN (h : Own1 w base e size R v l) (n : Nat) : Own1 (w.drewN n) base e size R v l := h
theorem Own1.imp (h : Own1 w base e size R v l) (hR : ∀ x y, R x y → R' x y) : Own1 w base e size R' v l := by
  obtain ⟨xs, h1, h2⟩ := h
  exact ⟨xs, h1, h2.imp hR⟩
theorem Own1.mono {base' : Nat} (h : Own1 w base e size R v l) (hb : base' ≤ base) : Own1 w base' e size R v l := by
  obtain ⟨xs, ⟨h0, h1⟩, h2⟩ := h
  refine ⟨xs, ⟨h0, ?_⟩, h2⟩
  rcases h1 with h1 | ⟨g, cap, cur, r1, r2, r3⟩
  · exact .inl h1
  · exact .inr ⟨g, cap, cur, r1, by omega, r3⟩
theorem Own1.kept {base' size' n' : Nat} {e' : TypeId} {v' : Value} {xs' : List Value} (h : Own1 w base e size R v l) (h' : w.ownsRow base' e' size' v' n' xs') (hne : e ≠ e') (hg : w.grownBy w' v'.ownBlock) : Own1 w' base e size R v l := by
  obtain ⟨xs, h1, h2⟩ := h
  refine ⟨xs, h1.kept hg ?_, h2⟩
  rcases h1.2 with ⟨rfl, _⟩ | ⟨g, cap, cur, rfl, _, hh, _⟩
  · exact .inl rfl
  · refine .inr ?_
    rcases h'.2 with ⟨rfl, _⟩ | ⟨g', cap', cur', rfl, _, hh', _⟩
    · simp [Value.ownBlock]
    · intro he
      simp [Value.ownBlock] at he
      subst he
      rw [hh] at hh'
      injection hh' with hh'
      injection hh' with _ ht
      exact hne ht
theorem Own1.below {B : Nat} (h : Own1 w base e size R v l) (hb : Below B w w') (hB : w.heap.size ≤ B) : Own1 w' base e size R v l := by
  obtain ⟨xs, h1, h2⟩ := h
  refine ⟨xs, ⟨h1.1, ?_⟩, h2⟩
  rcases h1.2 with r | ⟨g, cap, cur, r1, r2, r3, r4⟩
  · exact .inl r
  · have hg : g < w.heap.size := by
      rcases Nat.lt_or_ge g w.heap.size with hlt | hge
      · exact hlt
      · rw [Array.getElem?_eq_none hge] at r3; cases r3
    exact .inr ⟨g, cap, cur, r1, r2, (hb.block g (by omega)).trans r3, r4⟩
theorem Own1.read (h : Own1 w base e size R v l) (hs : 0 < size) : SlR w w.heap.size size R v l := by
  obtain ⟨xs, h1, h2⟩ := h
  rcases h1.2 with ⟨rfl, h0⟩ | ⟨g, cap, cur, rfl, hg, hh, hn, hc, hsz, hxs⟩
  · have : l = [] := List.eq_nil_of_length_eq_zero h0
    subst this
    exact SlR.nil_ _ (by unfold maxLen; omega) _
  · refine ⟨_, cap, rfl, hn, hc, fun hl => ⟨g, 0, rfl, ?_, fun i y hy => ⟨_, ?_, h2.2 i y hy, fun j u hu => ?_⟩⟩⟩
    · rcases Nat.lt_or_ge g w.heap.size with hlt | hge
      · exact hlt
      · rw [Array.getElem?_eq_none hge] at hh; cases hh
    · have hi : i < l.length := (List.getElem?_eq_some_iff.1 hy).1
      have : i * size + size ≤ xs.length := by
        rw [h1.1]
        calc i * size + size = (i + 1) * size := by rw [Nat.succ_mul]
          _ ≤ l.length * size := Nat.mul_le_mul_right _ hi
      rw [List.length_take, List.length_drop]
      omega
    · have hj : j < size := by
        have := (List.getElem?_eq_some_iff.1 hu).1
        rw [List.length_take] at this
        omega
      have hx : xs[i * size + j]? = some u := by
        rw [List.getElem?_take_of_lt hj, List.getElem?_drop] at hu
        exact hu
      have := h1.cells (g := g) rfl _ _ hx
      have e' : ((⟨g, 0, none⟩ : Addr).add (i * size + j)) = ⟨g, 0 + i * size + j, none⟩ := by
        unfold Addr.add
        split
        · rename_i h0
          rw [Nat.zero_add, h0]
        · rw [Nat.zero_add, Nat.zero_add]
      rwa [e'] at this
theorem SlR.flat {B : Nat} {a : Option Addr} {n c : Nat} (h : SlR w B size R (.slice a n c) l) : ∃ news, FlatR size R news l ∧ (a = none → n = 0) ∧ (∀ ad, a = some ad → 0 < n → ∀ j u, news[j]? = some u → w.cell? (ad.add j) = some u) := by
  obtain ⟨a', c', hv, h1, h2, h3⟩ := h
  injection hv with e1 e2 e3
  subst e1 e2 e3
  rcases Nat.eq_zero_or_pos l.length with h0 | h0
  · have : l = [] := List.eq_nil_of_length_eq_zero h0
    subst this
    exact ⟨[], FlatR.nil_, fun _ => rfl, fun ad _ hn => absurd hn (by simp)⟩
  · obtain ⟨b, off, rfl, hb, hc⟩ := h3 h0
    have key : ∀ m, m ≤ l.length → ∃ news, FlatR size R news (l.take m) ∧ ∀ j u, news[j]? = some u → w.cell? ⟨b, off + j, none⟩ = some u := by
      intro m
      induction m with
      | zero => exact fun _ => ⟨[], by simpa using FlatR.nil_, fun j u hu => by simp at hu⟩
      | succ m ih =>
        intro hm
        obtain ⟨news, hf, hcell⟩ := ih (by omega)
        have hy : l[m]? = some l[m] := List.getElem?_eq_getElem (by omega)
        obtain ⟨x, hx1, hx2, hx3⟩ := hc m _ hy
        refine ⟨news ++ x, ?_, fun j u hu => ?_⟩
        · rw [List.take_succ_eq_append_getElem (by omega)]
          exact hf.app (FlatR.one hx1 hx2)
        · have hln : news.length = m * size := by rw [hf.1, List.length_take, Nat.min_eq_left (by omega)]
          rcases Nat.lt_or_ge j news.length with hj | hj
          · rw [List.getElem?_append_left hj] at hu
            exact hcell j u hu
          · rw [List.getElem?_append_right hj] at hu
            have := hx3 _ u hu
            have e : off + m * size + (j - news.length) = off + j := by omega
            rwa [e] at this
    obtain ⟨news, hf, hcell⟩ := key l.length zL
    rw [List.take_length] at hf
    refine ⟨news, hf, (fun h => by cases h), fun ad had hn j u hu => ?_⟩
    injection had with had
    subst had
    have := hcell j u hu
    have e : ((⟨b, off, none⟩ : Addr).add j) = ⟨b, off + j, none⟩ := by
      unfold Addr.add
      split
      · rename_i h0
        rw [h0, Nat.add_zero]
      · rfl
    rw [e]
    exact this
end
theorem Own1.empty {α : Type} {w : World} {base size g : Nat} {e : TypeId} {R : List Value → α → Prop} (hg : g = w.heap.size) (hb : base ≤ w.heap.size) : Own1 (w.alloc (.cells #[] e)) base e size R (.slice (some ⟨g, 0, none⟩) 0 0) ([] : List α) := by
  subst hg
  refine ⟨[], ⟨by simp, .inr ⟨w.heap.size, 0, #[], rfl, hb, heap_alloc_new w _, by simp, by simp [maxLen], by simp, by simp⟩⟩, FlatR.nil_⟩
theorem Own1.setFar {α : Type} {w : World} {base size : Nat} {e : TypeId} {R : List Value → α → Prop} {v : Value} {l : List α} (h : Own1 w base e size R v l) {p : Addr} (hp : p.block < base) (u : Value) : Own1 (w.setCell p u) base e size R v l := by
  obtain ⟨xs, h1, h2⟩ := h
  exact ⟨xs, ownsRow_setCell_below h1 hp u, h2⟩
theorem Own1.form {α : Type} {w : World} {base size : Nat} {e : TypeId} {R : List Value → α → Prop} {v : Value} {l : List α} (h : Own1 w base e size R v l) : ∃ a c, v = .slice a l.length c := by
  obtain ⟨xs, h1, _⟩ := h
  rcases h1.2 with ⟨rfl, h0⟩ | ⟨g, cap, cur, rfl, _⟩
  · exact ⟨_, _, by rw [h0]⟩
  · exact ⟨_, _, rfl⟩
theorem Own1.block {α : Type} {w : World} {base size : Nat} {e : TypeId} {R : List Value → α → Prop} {v : Value} {l : List α} (h : Own1 w base e size R v l) : ∀ k, v.ownBlock = some k → base ≤ k ∧ k < w.heap.size := by
  obtain ⟨xs, h1, _⟩ := h
  exact h1.lt
theorem Own1.kept1 {α β : Type} {w w' : World} {base size base' size' : Nat} {e e' : TypeId} {R : List Value → α → Prop} {R' : List Value → β → Prop} {v v' : Value} {l : List α} {l' : List β} (h : Own1 w base e size R v l) (h' : Own1 w base' e' size' R' v' l') (hne : e ≠ e') (hg : w.grownBy w' v'.ownBlock) : Own1 w' base e size R v l := by
  obtain ⟨xs, h1, _⟩ := h'
  exact h.kept h1 hne hg
theorem SlR.new1 {α : Type} {w : World} {size : Nat} {e : TypeId} {R : List Value → α → Prop} {x : List Value} {y : α} {g : Nat} (hg : g = w.heap.size) (hl : x.length = size) (hR : R x y) : SlR (w.alloc (.cells x.toArray e)) (w.heap.size + 1) size R (.slice (some ⟨g, 0, none⟩) 1 1) [y] := by
  subst hg
  refine ⟨some ⟨w.heap.size, 0, none⟩, 1, rfl, Nat.le_refl _, by unfold maxLen; omega, fun _ => ⟨w.heap.size, 0, rfl, by omega, fun i z hz => ?_⟩⟩
  rcases i with _ | i
  · simp at hz
    subst hz
    refine ⟨x, hl, hR, fun j u hu => ?_⟩
    have : (w.alloc (.cells x.toArray e)).heap[w.heap.size]? = some (.cells x.toArray e (0, 0)) := heap_alloc_new w _
    rw [World.cell?]
    show (match (w.alloc (.cells x.toArray e)).heap[w.heap.size]? with | some (.cells c _ _) => _ | _ => none) = _
    rw [this]
    simpa using hu
  · simp at hz
section
variable {P : Program} {α : Type}
theorem run_append_list (w : World) (base B : Nat) (t ty e : TypeId) (i : TypeInfo) (z : Value) (size bytes : Nat) (ht : P.underlying t = some (.slice e)) (hi : P.info? e = some i) (hz : i.zero = some z)
    (hsize : i.size = size) (hby : i.bytes = bytes) (hzs : z.cells.size = size) (hsz : 0 < size) {R : List Value → α → Prop} {l m : List α}
    (v : Value) (hown : Own1 w base e size R v l) (A : Option Addr) (n c : Nat) (hsrc : SlR w B size R (.slice A n c) m)
    (h1 : ∀ x y, R x y → ∀ u ∈ x, u.oneCell' = true) (h63 : l.length + n ≤ maxLen) (hbytes : (l.length + n) * bytes ≤ 140737488355328) (hbase : base ≤ w.heap.size) :
    ∃ v' w', (Builtin.append_ #[t, t] ty #[v, .slice A n c]).run P w = .ok v' w' ∧ Own1 w' base e size R v' (l ++ m) ∧ w.grownBy w' v.ownBlock ∧ (v'.ownBlock = v.ownBlock ∨ v'.ownBlock = some w.heap.size) := by
  obtain ⟨news, hf, hnone, hcell⟩ := hsrc.flat
  have hn : n = m.length := hsrc.len
  obtain ⟨xs, hx, hxf⟩ := hown
  have hone : ∀ u ∈ news, u.oneCell' = true := by
    intro u hu
    obtain ⟨k, hk⟩ := List.mem_iff_getElem?.1 hu
    have hkl : k < news.length := (List.getElem?_eq_some_iff.1 hk).1
    have hkm : k / size < m.length := by rw [hf.1] at hkl; exact Nat.div_lt_of_lt_mul (by rwa [Nat.mul_comm])
    refine h1 _ _ (hf.2 (k / size) _ (List.getElem?_eq_getElem hkm)) u ?_
    refine List.mem_iff_getElem?.2 ⟨k % size, ?_⟩
    rw [List.getElem?_take_of_lt (Nat.mod_lt _ hsz), List.getElem?_drop, Nat.mul_comm, Nat.div_add_mod, hk]
  rcases A with _ | ad
  · have h0 := hnone rfl
    have hm : m = [] := List.eq_nil_of_length_eq_zero (by omega)
    subst hm
    subst h0
    refine ⟨v, w, ?_, ⟨xs, by simpa using hx, by simpa using hxf⟩, World.grownBy.refl w _, .inl rfl⟩
    rcases hx.2 with ⟨rfl, h0'⟩ | ⟨g, cap, cur, rfl, _, _, hnc, _⟩
    · simp [Builtin.append_, run_underlying ht, sizeOf, typeInfo, hi, Builtin.lenOf, Builtin.firstCells]
    · simp [Builtin.append_, run_underlying ht, sizeOf, typeInfo, hi, Builtin.lenOf, Builtin.firstCells, hnc, storeCells]
  · have hcells : ∀ j u, news[j]? = some u → w.cell? (ad.add j) = some u := by
      intro j u hu
      rcases Nat.eq_zero_or_pos n with h0 | h0
      · have hl0 : news.length = 0 := by rw [hf.1, ← hn, h0, Nat.zero_mul]
        have : news = [] := List.eq_nil_of_length_eq_zero hl0
        subst this
        simp at hu
      · exact hcell ad rfl h0 j u hu
    obtain ⟨v', w', hrun, h2, h3, _, h5⟩ := run_append_own_at (P := P) w base t ty e i z size bytes ht hi hz hsize hby hzs hsz v l.length xs hx ad n c news (by rw [hf.1, hn]) hcells hone h63 hbytes hbase
    exact ⟨v', w', hrun, ⟨xs ++ news, by rw [List.length_append, ← hn]; exact h2, hxf.app hf⟩, h3, h5⟩
theorem wpList_append_list {ops : Array Oper} {rest : List Oper} {o : Oper} {a : Act} {Q : Exit → Act → World → Prop} {w : World} (hgd : o.guard = none) (s x : Operand) (t : TypeId)
    (ho : o.op = .call { callee := .builtin .append, args := #[s, x], argTypes := #[t, t] })
    (base B : Nat) (e : TypeId) (i : TypeInfo) (z : Value) (size bytes : Nat) (ht : P.underlying t = some (.slice e)) (hi : P.info? e = some i) (hz : i.zero = some z)
    (hsize : i.size = size) (hby : i.bytes = bytes) (hzs : z.cells.size = size) (hsz : 0 < size) {R : List Value → α → Prop} {l m : List α}
    (v : Value) (hs : a.eval s = v) (hown : Own1 w base e size R v l) (A : Option Addr) (n c : Nat) (hx : a.eval x = .slice A n c) (hsrc : SlR w B size R (.slice A n c) m)
    (N : Nat) (hN : N = l.length + n) (h1 : ∀ x y, R x y → ∀ u ∈ x, u.oneCell' = true) (h63 : l.length + n ≤ maxLen) (hbytes : (l.length + n) * bytes ≤ 140737488355328) (hbase : base ≤ w.heap.size)
    (h : ∀ (a' : Option Addr) (c' : Nat) w', Own1 w' base e size R (.slice a' N c') (l ++ m) → w.grownBy w' v.ownBlock → wpList P ops Q rest (a.put o.dst (.slice a' N c')) w') : wpList P ops Q (o :: rest) a w := by
  refine wpList_plain hgd fun K hK => ?_
  obtain ⟨v', w', hrun, h2, h3, _⟩ := run_append_list (P := P) w base B t o.type e i z size bytes ht hi hz hsize hby hzs hsz v hown A n c hsrc h1 h63 hbytes hbase
  unfold Oper.wp execOp
  simp only [ho, resolve, invoke, builtin, Sem.run_bind, Sem.run_pure, Result.andThen_ok, List.map_toArray, List.map_cons, List.map_nil, hs, hx, hrun]
  obtain ⟨a', c', rfl⟩ := h2.form
  have e : (l ++ m).length = N := by rw [hN, List.length_append, hsrc.len]
  rw [e] at h2 ⊢
  exact hK _ _ (h a' c' w' h2 h3)
theorem step_append_list {ops : Array Oper} {o : Oper} {a : Act} {K : Act → World → Prop} {Q : Exit → Act → World → Prop} {E : Prop} {w : World} (hgd : o.guard = none) (s x : Operand) (t : TypeId)
    (ho : o.op = .call { callee := .builtin .append, args := #[s, x], argTypes := #[t, t] })
    (base B : Nat) (e : TypeId) (i : TypeInfo) (z : Value) (size bytes : Nat) (ht : P.underlying t = some (.slice e)) (hi : P.info? e = some i) (hz : i.zero = some z)
    (hsize : i.size = size) (hby : i.bytes = bytes) (hzs : z.cells.size = size) (hsz : 0 < size) {R : List Value → α → Prop} {l m : List α}
    (v : Value) (hs : a.eval s = v) (hown : Own1 w base e size R v l) (A : Option Addr) (n c : Nat) (hx : a.eval x = .slice A n c) (hsrc : SlR w B size R (.slice A n c) m)
    (N : Nat) (hN : N = l.length + n) (h1 : ∀ x y, R x y → ∀ u ∈ x, u.oneCell' = true) (h63 : l.length + n ≤ maxLen) (hbytes : (l.length + n) * bytes ≤ 140737488355328) (hbase : base ≤ w.heap.size)
    (h : ∀ (a' : Option Addr) (c' : Nat) w', Own1 w' base e size R (.slice a' N c') (l ++ m) → w.grownBy w' v.ownBlock → K (a.put o.dst (.slice a' N c')) w') : if Region.wanted o (yielded ops a.tmps) = true then Oper.wp P o a w K Q else E := by
  rw [if_pos (by simp [Region.wanted, hgd])]
  obtain ⟨v', w', hrun, h2, h3, _⟩ := run_append_list (P := P) w base B t o.type e i z size bytes ht hi hz hsize hby hzs hsz v hown A n c hsrc h1 h63 hbytes hbase
  unfold Oper.wp execOp
  simp only [ho, resolve, invoke, builtin, Sem.run_bind, Sem.run_pure, Result.andThen_ok, List.map_toArray, List.map_cons, List.map_nil, hs, hx, hrun]
  obtain ⟨a', c', rfl⟩ := h2.form
  have e : (l ++ m).length = N := by rw [hN, List.length_append, hsrc.len]
  rw [e] at h2 ⊢
  exact h a' c' w' h2 h3
end
def Blk (w : World) (g : Nat) (t : TypeId) (cs : Array Value) : Prop := w.heap[g]? = some (.cells cs t (0, 0))
theorem Blk.lt {w : World} {g : Nat} {t : TypeId} {cs : Array Value} (h : Blk w g t cs) : g < w.heap.size := by
  rcases Nat.lt_or_ge g w.heap.size with hlt | hge
  · exact hlt
  · unfold Blk at h; rw [Array.getElem?_eq_none hge] at h; cases h
theorem Blk.cell {w : World} {g : Nat} {t : TypeId} {cs : Array Value} (h : Blk w g t cs) {i : Nat} {u : Value} (hi : cs[i]? = some u) : w.cell? ⟨g, i, none⟩ = some u := by
  unfold Blk at h
  simp [World.cell?, h, hi]
theorem Blk.frozen {w : World} {g : Nat} {t : TypeId} {cs : Array Value} (h : Blk w g t cs) (i : Nat) : w.frozen? ⟨g, i, none⟩ = false := by
  unfold Blk at h
  simp [World.frozen?, h]
theorem Blk.f4 {w : World} {b : Nat} {t : TypeId} {cs : Array Value} (h : Blk w b t cs) : w.frozen? ⟨b, 0, none⟩ = false ∧ w.frozen? ⟨b, 1, none⟩ = false ∧ w.frozen? ⟨b, 2, none⟩ = false ∧ w.frozen? ⟨b, 3, none⟩ = false := ⟨h.frozen 0, h.frozen 1, h.frozen 2, h.frozen 3⟩
theorem Blk.k2 {w : World} {b : Nat} {t : TypeId} {x0 x1 : Value} (h : Blk w b t #[x0, x1]) : w.cell? ⟨b, 0, none⟩ = some x0 ∧ w.cell? ⟨b, 1, none⟩ = some x1 := ⟨h.cell rfl, h.cell rfl⟩
theorem Blk.k3 {w : World} {b : Nat} {t : TypeId} {x0 x1 x2 : Value} (h : Blk w b t #[x0, x1, x2]) : w.cell? ⟨b, 0, none⟩ = some x0 ∧ w.cell? ⟨b, 1, none⟩ = some x1 ∧ w.cell? ⟨b, 2, none⟩ = some x2 := ⟨h.cell rfl, h.cell rfl, h.cell rfl⟩
theorem Blk.k4 {w : World} {b : Nat} {t : TypeId} {x0 x1 x2 x3 : Value} (h : Blk w b t #[x0, x1, x2, x3]) : w.cell? ⟨b, 0, none⟩ = some x0 ∧ w.cell? ⟨b, 1, none⟩ = some x1 ∧ w.cell? ⟨b, 2, none⟩ = some x2 ∧ w.cell? ⟨b, 3, none⟩ = some x3 := ⟨h.cell rfl, h.cell rfl, h.cell rfl, h.cell rfl⟩
theorem Blk.keep {w w' : World} {g : Nat} {t : TypeId} {cs : Array Value} (h : Blk w g t cs) (hk : w'.heap[g]? = w.heap[g]?) : Blk w' g t cs := hk.trans h
theorem Blk.below {w w' : World} {g B : Nat} {t : TypeId} {cs : Array Value} (h : Blk w g t cs) (hb : Below B w w') (hg : g < B) : Blk w' g t cs := (hb.block g hg).trans h
theorem Blk.grown {w w' : World} {g : Nat} {t : TypeId} {cs : Array Value} {row : Option Nat} (h : Blk w g t cs) (hb : w.grownBy w' row) (hg : some g ≠ row) : Blk w' g t cs := (hb.block g h.lt hg).trans h
theorem Blk.alloc {w : World} {g : Nat} {t : TypeId} {cs : Array Value} (h : Blk w g t cs) (o : Obj) : Blk (w.alloc o) g t cs := (Below.heap_alloc w o g h.lt).trans h
theorem Blk.new (w : World) (t : TypeId) (cs : Array Value) : Blk (w.alloc (.cells cs t)) w.heap.size t cs := heap_alloc_new w _
theorem Blk.new_ {w : World} {g : Nat} (hg : g = w.heap.size) (t : TypeId) (cs : Array Value) : Blk (w.alloc (.cells cs t)) g t cs := by subst hg; exact heap_alloc_new w _
theorem Blk.set_ {w : World} {g : Nat} {t : TypeId} {cs : Array Value} (h : Blk w g t cs) (i : Nat) (u : Value) : Blk (w.setCell ⟨g, i, none⟩ u) g t (cs.setIfInBounds i u) := by
  unfold Blk at h ⊢
  simp [World.setCell, Array.getElem?_modify, h]
theorem Blk.far {w : World} {g : Nat} {t : TypeId} {cs : Array Value} (h : Blk w g t cs) {p : Addr} (hp : g ≠ p.block) (u : Value) : Blk (w.setCell p u) g t cs := (Below.heap_setCell w p u g hp).trans h
end Go.Proofs.YtpkggobhhieeoaaDoor
namespace Go.Proofs.YtpkggobhhieeoaaDoor
open Go.RowKit
def bs (s : ByteArray) : List Nat := s.data.toList.map UInt8.toNat
def txt (l : List Nat) : ByteArray := ⟨(l.map UInt8.ofNat).toArray⟩
def Bytes (l : List Nat) : Prop := ∀ n ∈ l, n < 256
theorem bs_len (s : ByteArray) : (bs s).length = s.size := by
  unfold bs
  rw [List.length_map, Array.length_toList]
  rfl
theorem bs_at {s : ByteArray} {i : Nat} (h : i < s.size) : (bs s)[i]? = some (s[i]'h).toNat := by
  have h' : i < s.data.size := h
  have e : s[i]'h = s.data[i]'h' := rfl
  rw [e]
  unfold bs
  rw [List.getElem?_map, Array.getElem?_toList, Array.getElem?_eq_getElem h']
  rfl
theorem bs_bytes (s : ByteArray) : Bytes (bs s) := by
  intro n h
  simp only [bs, List.mem_map] at h
  obtain ⟨b, _, rfl⟩ := h
  exact b.toNat_lt
theorem txt_bs (s : ByteArray) : txt (bs s) = s := by
  obtain ⟨⟨l⟩⟩ := s
  simp [txt, bs, Function.comp_def]
theorem bs_txt {l : List Nat} (h : Bytes l) : bs (txt l) = l := by
  simp only [txt, bs, List.toList_toArray, List.map_map]
  conv => rhs; rw [← List.map_id l]
  apply List.map_congr_left
  intro n hn
  have := h n hn
  simp [Nat.mod_eq_of_lt this]
theorem bs_append (s t : ByteArray) : bs (s ++ t) = bs s ++ bs t := by
  have : (s ++ t).data = s.data ++ t.data := ByteArray.data_append ..
  simp [bs, this]
theorem bs_inj {s t : ByteArray} (h : bs s = bs t) : s = t := by rw [← txt_bs s, ← txt_bs t, h]
theorem txt_size (l : List Nat) : (txt l).size = l.length := by simp [txt, ByteArray.size]
theorem bs_extract (s : ByteArray) (i j : Nat) : bs (s.extract i j) = ((bs s).take j).drop i := by
  have : (s.extract i j).data = s.data.extract i j := ByteArray.data_extract ..
  simp [bs, this, List.extract_eq_take_drop, List.map_take, List.map_drop, List.drop_take]
theorem bytes_nil : Bytes [] := fun n h => by simp at h
theorem bytes_app {l m : List Nat} (h : Bytes l) (k : Bytes m) : Bytes (l ++ m) := fun n hn => by
  rcases List.mem_append.1 hn with h' | h'
  · exact h n h'
  · exact k n h'
def IsByte (x : List Value) (n : Nat) : Prop := x = [.int .u8 (n : Int)] ∧ n < 256
theorem IsByte.one (x : List Value) (n : Nat) (h : IsByte x n) : ∀ u ∈ x, u.oneCell' = true := by
  intro u hu
  rw [h.1] at hu
  simp at hu
  subst hu
  rfl
theorem byteRow {xs : List Value} {l : List Nat} (h : FlatR 1 IsByte xs l) : xs = l.map (fun (n : Nat) => Value.int .u8 (n : Int)) ∧ Bytes l := by
  obtain ⟨h1, h2⟩ := h
  have h1' : xs.length = l.length := by omega
  refine ⟨List.ext_getElem? fun i => ?_, fun n hn => ?_⟩
  · by_cases hi : i < l.length
    · have hy : l[i]? = some l[i] := List.getElem?_eq_getElem hi
      have := (h2 i _ hy).1
      rw [Nat.mul_one, List.drop_eq_getElem_cons (by omega), List.take_succ_cons, List.take_zero] at this
      rw [List.getElem?_eq_getElem (by omega), List.getElem?_map, hy]
      injection this with e2 _
      rw [e2]
      rfl
    · rw [List.getElem?_eq_none (by omega), List.getElem?_eq_none (by simp; omega)]
  · obtain ⟨i, hi⟩ := List.mem_iff_getElem?.1 hn
    exact (h2 i n hi).2
theorem byteRow_mk {l : List Nat} (h : Bytes l) : FlatR 1 IsByte (l.map (fun (n : Nat) => Value.int .u8 (n : Int))) l := by
  refine ⟨by simp, fun i y hy => ?_⟩
  have hi : i < l.length := (List.getElem?_eq_some_iff.1 hy).1
  have hm : i < (l.map (fun (n : Nat) => Value.int .u8 (n : Int))).length := by simpa using hi
  rw [Nat.mul_one, List.drop_eq_getElem_cons hm]
  refine ⟨by simp [(List.getElem?_eq_some_iff.1 hy).2], h y (List.mem_iff_getElem?.2 ⟨i, hy⟩)⟩
theorem strCells_eq (s : ByteArray) : Lib.strCells s = (bs s).map (fun (n : Nat) => Value.int .u8 (n : Int)) := by
  simp [Lib.strCells, bs, Function.comp_def]
section
variable {P : Program}
theorem run_text_of_row {w : World} {base : Nat} {v : Value} {l : List Nat} (src dst e : TypeId) (hs : P.underlying src = some (.slice e)) (he : P.underlying e = some (.int .u8)) (hd : P.underlying dst = some .string) (h : Own1 w base e 1 IsByte v l) :
    (convert src dst v).run P w = .ok (.string (txt l)) w := by
  obtain ⟨xs, h1, h2⟩ := h
  obtain ⟨rfl, hb⟩ := byteRow h2
  rcases h1.2 with ⟨rfl, h0⟩ | ⟨g, cap, cur, rfl, _⟩
  · have : l = [] := List.eq_nil_of_length_eq_zero h0
    subst this
    rw [run_convert_bytes_string w src dst e none 0 0 hs he hd]
    rfl
  · have hl : (l.map UInt8.ofNat).length = l.length := by simp
    have hcell := h1.cells (g := g) rfl
    have := run_convert_bytes_back (P := P) w src dst e ⟨g, 0, none⟩ cap (l.map UInt8.ofNat) hs he hd (fun j hj => by
      have hj' : j < l.length := by simpa using hj
      have hn : l[j] < 256 := hb _ (List.getElem_mem hj')
      refine hcell j _ ?_
      simp [List.getElem?_eq_getElem hj', Nat.mod_eq_of_lt hn])
    rw [hl] at this
    exact this
theorem below_of_grown {α : Type} {w w' : World} {base size : Nat} {e : TypeId} {R : List Value → α → Prop} {v : Value} {l : List α} (h : Own1 w base e size R v l) (hb : base ≤ w.heap.size) (hg : w.grownBy w' v.ownBlock) : Below base w w' :=
  (Below.refl base w).grown hg hb (fun g hg => (h.block g hg).1)
theorem wpList_append_bytes {ops : Array Oper} {rest : List Oper} {o : Oper} {a : Act} {Q : Exit → Act → World → Prop} {w : World} (hgd : o.guard = none) (s x : Operand) (t : TypeId)
    (ho : o.op = .call { callee := .builtin .append, args := #[s, x], argTypes := #[t, t] })
    (base B : Nat) (e : TypeId) (i : TypeInfo) (ht : P.underlying t = some (.slice e)) (hi : P.info? e = some i) (hz : i.zero = some (.int .u8 0)) (hsize : i.size = 1) (hby : i.bytes = 1)
    {l m : List Nat} (v : Value) (hs : a.eval s = v) (hown : Own1 w base e 1 IsByte v l) (A : Option Addr) (n c : Nat) (hx : a.eval x = .slice A n c) (hsrc : SlR w B 1 IsByte (.slice A n c) m)
    (hfit : l.length + n ≤ 140737488355328) (hbase : base ≤ w.heap.size)
    (h : ∀ (a' : Option Addr) (n' c' : Nat) w', Own1 w' base e 1 IsByte (.slice a' n' c') (l ++ m) → Below base w w' → wpList P ops Q rest (a.put o.dst (.slice a' n' c')) w') : wpList P ops Q (o :: rest) a w :=
  wpList_append_list hgd s x t ho base B e i _ 1 1 ht hi hz hsize hby rfl (by omega) v hs hown A n c hx hsrc _ rfl IsByte.one (by unfold maxLen; omega) (by omega) hbase (fun a' c' w' h1 h2 => h a' _ c' w' h1 (below_of_grown hown hbase h2))
theorem step_append_bytes {ops : Array Oper} {o : Oper} {a : Act} {K : Act → World → Prop} {Q : Exit → Act → World → Prop} {E : Prop} {w : World} (hgd : o.guard = none) (s x : Operand) (t : TypeId)
    (ho : o.op = .call { callee := .builtin .append, args := #[s, x], argTypes := #[t, t] })
    (base B : Nat) (e : TypeId) (i : TypeInfo) (ht : P.underlying t = some (.slice e)) (hi : P.info? e = some i) (hz : i.zero = some (.int .u8 0)) (hsize : i.size = 1) (hby : i.bytes = 1)
    {l m : List Nat} (v : Value) (hs : a.eval s = v) (hown : Own1 w base e 1 IsByte v l) (A : Option Addr) (n c : Nat) (hx : a.eval x = .slice A n c) (hsrc : SlR w B 1 IsByte (.slice A n c) m)
    (hfit : l.length + n ≤ 140737488355328) (hbase : base ≤ w.heap.size)
    (h : ∀ (a' : Option Addr) (n' c' : Nat) w', Own1 w' base e 1 IsByte (.slice a' n' c') (l ++ m) → Below base w w' → K (a.put o.dst (.slice a' n' c')) w') : if Region.wanted o (yielded ops a.tmps) = true then Oper.wp P o a w K Q else E :=
  step_append_list hgd s x t ho base B e i _ 1 1 ht hi hz hsize hby rfl (by omega) v hs hown A n c hx hsrc _ rfl IsByte.one (by unfold maxLen; omega) (by omega) hbase (fun a' c' w' h1 h2 => h a' _ c' w' h1 (below_of_grown hown hbase h2))
theorem own_bytes {w : World} {base g : Nat} {e : TypeId} {l : List Nat} {xs : List Value} (hg : g = w.heap.size) (hb : base ≤ w.heap.size) (hx : xs = l.map (fun (n : Nat) => Value.int .u8 (n : Int))) (hl : Bytes l) (hm : l.length ≤ maxLen) (n c : Nat) (hn : n = l.length) (hc : c = l.length) :
    Own1 (w.alloc (.cells xs.toArray e)) base e 1 IsByte (.slice (some ⟨g, 0, none⟩) n c) l := by
  subst hg hx hn hc
  refine ⟨l.map (fun (n : Nat) => Value.int .u8 (n : Int)), ⟨by simp, .inr ⟨w.heap.size, l.length, (l.map (fun (n : Nat) => Value.int .u8 (n : Int))).toArray, rfl, hb, heap_alloc_new w _, Nat.le_refl _, hm, by simp, by simp [List.take_of_length_le]⟩⟩, byteRow_mk hl⟩
theorem bytes_row {w : World} {g : Nat} {e : TypeId} {l : List Nat} {xs : List Value} (hg : g = w.heap.size) (hx : xs = l.map (fun (n : Nat) => Value.int .u8 (n : Int))) (hl : Bytes l) (hm : l.length ≤ maxLen) (n c : Nat) (hn : n = l.length) (hc : c = l.length) :
    SlR (w.alloc (.cells xs.toArray e)) (w.heap.size + 1) 1 IsByte (.slice (some ⟨g, 0, none⟩) n c) l := by
  have := (own_bytes (base := 0) hg (Nat.zero_le _) hx hl hm n c hn hc (e := e)).read (by omega)
  rw [World.size_alloc] at this
  exact this
end
end Go.Proofs.YtpkggobhhieeoaaDoor
namespace Go.Proofs.YtpkggobhhieeoaaDoor
open Go.RowKit
theorem get_bs {s : ByteArray} {k : Nat} (h : k < s.size) : ∃ c, (bs s)[k]? = some c ∧ c < 256 := ⟨_, bs_at h, UInt8.toNat_lt _⟩
theorem index_txt (W : World) (t : TypeId) (ht : Tryd.prog.underlying t = some .string) {s : ByteArray} {k c : Nat} (hc : (bs s)[k]? = some c) (ik : IntKind) (i : Int) (hi : i = (k : Int)) :
    (Instr.index t (.string s) (.int ik i)).run Tryd.prog W = .ok (.int .u8 (c : Int)) W := by
  have hk : k < s.size := by rw [← bs_len]; exact (List.getElem?_eq_some_iff.1 hc).1
  subst hi
  rw [run_index_string W t _ ik _ ht, dif_pos ⟨Int.natCast_nonneg _, by omega⟩]
  have e : ∀ hh, (s[(k : Int).toNat]'hh).toNat = c := by
    intro hh
    have h2 : k < s.size := hk
    have h3 := bs_at h2
    rw [h3] at hc
    exact Option.some.inj hc
  rw [e]
end Go.Proofs.YtpkggobhhieeoaaDoor
namespace Go.Proofs.YtpkggobhhieeoaaDoor
def letterN (n : Nat) : Bool := decide ((65 ≤ n ∧ n ≤ 90) ∨ (97 ≤ n ∧ n ≤ 122))
def furtherN (n : Nat) : Bool := letterN n || decide ((48 ≤ n ∧ n ≤ 57) ∨ n = 95)
def rightN (l : List Nat) : Bool := match l with
  | [] => false
  | c :: t => decide ((c :: t).length ≤ 32) && letterN c && (c :: t).all furtherN
end Go.Proofs.YtpkggobhhieeoaaDoor
namespace Go.Proofs.YtpkggobhhieeoaaDoor
open Go.RowKit
def hiddenN (n : Nat) : Bool := decide (n ≠ 10 ∧ (n < 32 ∨ 126 < n))
def digitN (n : Nat) : Nat := if 48 ≤ n ∧ n ≤ 57 then n - 48 else if 97 ≤ n ∧ n ≤ 102 then n - 97 + 10 else 16
def hexN (n : Nat) : Nat := if n < 10 then 48 + n else 87 + n
def formN (n : Nat) : List Nat := if n = 34 then [92, 34] else if n = 92 then [92, 92] else if n = 10 then [92, 110] else if 32 ≤ n ∧ n ≤ 126 then [n] else [92, 120, hexN (n / 16), hexN (n % 16)]
theorem hidden_any (n : Nat) (w : World) : Calls Tryd.prog 50 #[.int .u8 (n : Int)] w fun e w' => e = .returned (.bool (hiddenN n)) ∧ Quiet w w' := by
  by_cases h1 : n = 10
  · have hv : hiddenN n = false := by simp [hiddenN, h1]
    rw [hv]; clear hv
    subst h1
    go_enter Tryd.func50, Tryd.ntmps50
    go_wp2
    go_ret
    exact ⟨rfl, Quiet.refl _⟩
  · have hv : hiddenN n = (decide (n < 32) || decide (126 < n)) := by rw [Bool.eq_iff_iff]; simp [hiddenN, h1]
    rw [hv]; clear hv
    have h1' : ((n : Int) != 10) = true := by simp; omega
    by_cases h2 : n < 32
    · go_enter Tryd.func50, Tryd.ntmps50
      go_wp2
      go_ret
      exact ⟨by simp [h1', h2], Quiet.refl _⟩
    · have h2' : decide ((n : Int) < 32) = false := by simp; omega
      go_enter Tryd.func50, Tryd.ntmps50
      go_wp2
      go_ret
      exact ⟨by simp [h1', h2]; omega, Quiet.refl _⟩
theorem digit_any (n : Nat) (hn : n < 256) (w : World) : Calls Tryd.prog 80 #[.int .u8 (n : Int)] w fun e w' => e = .returned (.int .u8 (digitN n : Int)) ∧ Quiet w w' := by
  by_cases h1 : 48 ≤ n
  · by_cases h2 : n ≤ 57
    · have hv : (digitN n : Int) = (n : Int) - 48 := by simp [digitN, h1, h2]; omega
      rw [hv]; clear hv
      go_enter Tryd.func80, Tryd.ntmps80
      go_wp2
      go_ret
      exact ⟨rfl, Quiet.refl _⟩
    · by_cases h3 : 97 ≤ n
      · by_cases h4 : n ≤ 102
        · have hv : (digitN n : Int) = (n : Int) - 97 + 10 := by simp [digitN, h1, h2, h3, h4]; omega
          rw [hv]; clear hv
          go_enter Tryd.func80, Tryd.ntmps80
          go_wp2
          go_ret
          exact ⟨rfl, Quiet.refl _⟩
        · have hv : digitN n = 16 := by simp [digitN, h2, h4]
          rw [hv]; clear hv
          go_enter Tryd.func80, Tryd.ntmps80
          go_wp2
          go_ret
          exact ⟨rfl, Quiet.refl _⟩
      · have hv : digitN n = 16 := by simp [digitN, h2, h3]
        rw [hv]; clear hv
        go_enter Tryd.func80, Tryd.ntmps80
        go_wp2
        go_ret
        exact ⟨rfl, Quiet.refl _⟩
  · have hv : digitN n = 16 := by simp [digitN, h1]; omega
    rw [hv]; clear hv
    have h3 : ¬ 97 ≤ n := by omega
    go_enter Tryd.func80, Tryd.ntmps80
    go_wp2
    go_ret
    exact ⟨rfl, Quiet.refl _⟩
theorem hex_digit (k : Nat) (h : k < 16) : (⟨#[48, 49, 50, 51, 52, 53, 54, 55, 56, 57, 97, 98, 99, 100, 101, 102]⟩ : ByteArray)[k]'h = UInt8.ofNat (hexN k) := by
  have : ∀ k : Fin 16, (⟨#[48, 49, 50, 51, 52, 53, 54, 55, 56, 57, 97, 98, 99, 100, 101, 102]⟩ : ByteArray)[k.1]'k.2 = UInt8.ofNat (hexN k.1) := by decide
  exact this ⟨k, h⟩
theorem hexN_lt (k : Nat) (h : k < 16) : hexN k < 256 := by unfold hexN; split <;> omega
theorem index_hex (W : World) (t : TypeId) (ht : Tryd.prog.underlying t = some .string) (k : Nat) (h : k < 16) (ik : IntKind) (i : Int) (hi : i = (k : Int)) :
    (Instr.index t (.string ⟨#[48, 49, 50, 51, 52, 53, 54, 55, 56, 57, 97, 98, 99, 100, 101, 102]⟩) (.int ik i)).run Tryd.prog W = .ok (.int .u8 (hexN k : Int)) W := by
  subst hi
  rw [run_index_string W t _ ik _ ht, dif_pos ⟨Int.natCast_nonneg _, by show (k : Int) < ((16 : Nat) : Int); omega⟩]
  have e : ∀ hh, (⟨#[48, 49, 50, 51, 52, 53, 54, 55, 56, 57, 97, 98, 99, 100, 101, 102]⟩ : ByteArray)[(k : Int).toNat]'hh = UInt8.ofNat (hexN k) := by
    intro hh
    exact hex_digit k h
  rw [e]
  simp [Nat.mod_eq_of_lt (hexN_lt k h)]
end Go.Proofs.YtpkggobhhieeoaaDoor
namespace Go.Proofs.YtpkggobhhieeoaaDoor
def esc : List Nat → Option (Nat × Nat) × Nat
  | [] => (none, 1)
  | d :: t => if d = 34 ∨ d = 92 then (some (d, 2), 2) else if d = 110 then (some (10, 2), 2) else if d ≠ 120 then (none, 1) else
    match t with
    | [] => (none, 2)
    | h :: t => if 15 < digitN h ∨ (hiddenN (16 * digitN h) = false ∧ hiddenN (16 * digitN h + 15) = false) then (none, 2) else
      match t with
      | [] => (none, 3)
      | l :: _ => if 15 < digitN l ∨ hiddenN (16 * digitN h + digitN l) = false then (none, 3) else (some (16 * digitN h + digitN l, 4), 4)
def one : List Nat → Option (Nat × Nat) × Nat
  | [] => (none, 0)
  | c :: t => if c = 92 then esc t else if c < 32 ∨ 126 < c then (none, 0) else (some (c, 1), 1)
def common : List Nat → List Nat → Nat
  | a :: l, b :: m => if a = b then common l m + 1 else 0
  | _, _ => 0
theorem digit_hex (k : Nat) (h : k < 16) : digitN (hexN k) = k := by
  have : ∀ k : Fin 16, digitN (hexN k.1) = k.1 := by decide
  exact this ⟨k, h⟩
theorem hex_of_digit (n : Nat) (h : digitN n ≤ 15) : hexN (digitN n) = n := by
  unfold digitN at h ⊢
  unfold hexN
  split at h
  · rename_i h1
    rw [if_pos h1, if_pos (by omega)]; omega
  · rename_i h1
    split at h
    · rename_i h2
      rw [if_neg h1, if_pos h2, if_neg (by omega)]; omega
    · omega
theorem form_hidden {c : Nat} (h : hiddenN c = true) : formN c = [92, 120, hexN (c / 16), hexN (c % 16)] := by
  simp only [hiddenN, decide_eq_true_eq] at h
  unfold formN
  rw [if_neg (by omega), if_neg (by omega), if_neg (by omega), if_neg (by omega)]
theorem form_plain {c : Nat} (h1 : 32 ≤ c) (h2 : c ≤ 126) (h3 : c ≠ 34) (h4 : c ≠ 92) : formN c = [c] := by
  unfold formN
  rw [if_neg h3, if_neg h4, if_neg (by omega), if_pos ⟨h1, h2⟩]
theorem form_cases (c : Nat) : (c = 34 ∧ formN c = [92, 34]) ∨ (c = 92 ∧ formN c = [92, 92]) ∨ (c = 10 ∧ formN c = [92, 110]) ∨ (32 ≤ c ∧ c ≤ 126 ∧ c ≠ 34 ∧ c ≠ 92 ∧ formN c = [c]) ∨ (hiddenN c = true ∧ formN c = [92, 120, hexN (c / 16), hexN (c % 16)]) := by
  by_cases h1 : c = 34
  · subst h1; exact Or.inl ⟨rfl, rfl⟩
  by_cases h2 : c = 92
  · subst h2; exact Or.inr (Or.inl ⟨rfl, rfl⟩)
  by_cases h3 : c = 10
  · subst h3; exact Or.inr (Or.inr (Or.inl ⟨rfl, rfl⟩))
  by_cases h4 : 32 ≤ c ∧ c ≤ 126
  · exact Or.inr (Or.inr (Or.inr (Or.inl ⟨h4.1, h4.2, h1, h2, form_plain h4.1 h4.2 h1 h2⟩)))
  · have h : hiddenN c = true := by simp only [hiddenN, decide_eq_true_eq]; omega
    exact Or.inr (Or.inr (Or.inr (Or.inr ⟨h, form_hidden h⟩)))
theorem form_len (c : Nat) : 1 ≤ (formN c).length ∧ (formN c).length ≤ 4 := by
  rcases form_cases c with ⟨_, h⟩ | ⟨_, h⟩ | ⟨_, h⟩ | ⟨_, _, _, _, h⟩ | ⟨_, h⟩ <;> rw [h] <;> simp
theorem row_hidden {c : Nat} (hc : c < 256) (h : hiddenN c = true) : hiddenN (16 * (c / 16)) = true ∨ hiddenN (16 * (c / 16) + 15) = true := by
  simp only [hiddenN, decide_eq_true_eq] at *
  omega
theorem one_of_form {c : Nat} (hc : c < 256) (t : List Nat) : one (formN c ++ t) = (some (c, (formN c).length), (formN c).length) := by
  rcases form_cases c with ⟨rfl, h⟩ | ⟨rfl, h⟩ | ⟨rfl, h⟩ | ⟨h1, h2, h3, h4, h⟩ | ⟨h0, h⟩
  · rfl
  · rfl
  · rfl
  · rw [h]
    show (if c = 92 then _ else _) = _
    rw [if_neg h4, if_neg (by omega)]
    rfl
  · rw [h]
    have d1 := digit_hex (c / 16) (by omega)
    have d2 := digit_hex (c % 16) (by omega)
    have e : 16 * (c / 16) + c % 16 = c := by omega
    have hr := row_hidden hc h0
    have k1 : ¬ (15 < c / 16 ∨ (hiddenN (16 * (c / 16)) = false ∧ hiddenN (16 * (c / 16) + 15) = false)) := by
      intro hh
      rcases hh with hh | ⟨a, b⟩
      · omega
      · rw [a, b] at hr; simp at hr
    have k2 : ¬ (15 < c % 16 ∨ hiddenN c = false) := by
      intro hh
      rcases hh with hh | a
      · omega
      · rw [a] at h0; cases h0
    simp only [List.cons_append, List.nil_append, one, esc, d1, d2, e]
    rw [if_pos trivial, if_neg (by omega), if_neg (by omega), if_neg (by simp), if_neg k1, if_neg k2]
    rfl
theorem common_le_left : ∀ (l m : List Nat), common l m ≤ l.length
  | [], _ => by simp [common]
  | _ :: _, [] => by simp [common]
  | a :: l, b :: m => by
    simp only [common, List.length_cons]
    split
    · have := common_le_left l m; omega
    · omega
theorem common_full : ∀ (l m : List Nat), common l m = l.length → ∃ t, m = l ++ t
  | [], m, _ => ⟨m, rfl⟩
  | _ :: _, [], h => by simp [common] at h
  | a :: l, b :: m, h => by
    simp only [common, List.length_cons] at h
    split at h
    · rename_i e
      obtain ⟨t, ht⟩ := common_full l m (by omega)
      exact ⟨t, by rw [ht, e]; rfl⟩
    · omega
theorem one_none {r : List Nat} (hr : Bytes r) {far : Nat} (h : one r = (none, far)) : (∀ c, c < 256 → common (formN c) r ≤ far) ∧ (∃ c, c < 256 ∧ common (formN c) r = far) := by
  have f34 : formN 34 = [92, 34] := rfl
  have f0 : formN 0 = [92, 120, 48, 48] := rfl
  match r, h, hr with
  | [], h, _ =>
    simp only [one, Prod.mk.injEq, true_and] at h
    subst h
    exact ⟨fun c _ => by cases formN c <;> simp [common], 0, by omega, rfl⟩
  | b :: t, h, hr =>
    by_cases hb : b = 92
    · subst hb
      simp only [one, if_pos] at h
      have key : ∀ c, c < 256 → common (formN c) (92 :: t) = (match formN c with | 92 :: f => common f t + 1 | _ => 0) := by
        intro c hc
        rcases form_cases c with ⟨_, h⟩ | ⟨_, h⟩ | ⟨_, h⟩ | ⟨_, _, _, h4, h⟩ | ⟨_, h⟩ <;> rw [h] <;> simp [common, *]
      match t, h, hr with
      | [], h, _ =>
        simp only [esc, Prod.mk.injEq, true_and] at h
        subst h
        refine ⟨fun c hc => ?_, 34, by omega, by rw [f34]; rfl⟩
        rw [key c hc]
        rcases form_cases c with ⟨_, h⟩ | ⟨_, h⟩ | ⟨_, h⟩ | ⟨_, _, _, h4, h⟩ | ⟨_, h⟩ <;> rw [h] <;> simp [common, *]
      | d :: t, h, hr =>
        by_cases hd : d = 34 ∨ d = 92
        · simp [esc, hd] at h
        · by_cases hn : d = 110
          · simp [esc, hn] at h
          · by_cases hx : d = 120
            · subst hx
              match t, h, hr with
              | [], h, _ =>
                simp [esc] at h
                subst h
                refine ⟨fun c hc => ?_, 0, by omega, by rw [f0]; rfl⟩
                rw [key c hc]
                rcases form_cases c with ⟨_, h⟩ | ⟨_, h⟩ | ⟨_, h⟩ | ⟨_, _, _, h4, h⟩ | ⟨_, h⟩ <;> rw [h] <;> simp [common, *]
              | hh :: t, h, hr =>
                by_cases hg : 15 < digitN hh ∨ (hiddenN (16 * digitN hh) = false ∧ hiddenN (16 * digitN hh + 15) = false)
                · simp [esc, hg] at h
                  subst h
                  refine ⟨fun c hc => ?_, ?_⟩
                  · rw [key c hc]
                    rcases form_cases c with ⟨_, h⟩ | ⟨_, h⟩ | ⟨_, h⟩ | ⟨_, _, _, h4, h⟩ | ⟨h0, h⟩ <;> rw [h] <;> simp [common, *]
                    have hne : hexN (c / 16) ≠ hh := by
                      intro e
                      have d1 := digit_hex (c / 16) (by omega)
                      rw [e] at d1
                      rw [d1] at hg
                      have := row_hidden hc h0
                      rcases hg with hg | ⟨a, b⟩
                      · omega
                      · rw [a, b] at this; simp at this
                    simp [hne]
                  · -- a hidden byte of another row
                    by_cases h48 : hh = 48
                    · subst h48
                      exfalso
                      revert hg
                      decide
                    · exact ⟨0, by omega, by rw [f0]; simp [common, Ne.symm h48]⟩
                · have hg1 : digitN hh ≤ 15 := by omega
                  have hg2 : hiddenN (16 * digitN hh) = true ∨ hiddenN (16 * digitN hh + 15) = true := by
                    by_cases a : hiddenN (16 * digitN hh) = true
                    · exact Or.inl a
                    · refine Or.inr ?_
                      by_cases b : hiddenN (16 * digitN hh + 15) = true
                      · exact b
                      · exact absurd (Or.inr ⟨by simpa using a, by simpa using b⟩) hg
                  have hex := hex_of_digit hh hg1
                  have wit : ∃ c, c < 256 ∧ hiddenN c = true ∧ c / 16 = digitN hh := by
                    rcases hg2 with a | a
                    · exact ⟨_, by omega, a, by omega⟩
                    · exact ⟨_, by omega, a, by omega⟩
                  match t, h, hr with
                  | [], h, _ =>
                    simp [esc, hg] at h
                    subst h
                    refine ⟨fun c hc => ?_, ?_⟩
                    · rw [key c hc]
                      rcases form_cases c with ⟨_, h⟩ | ⟨_, h⟩ | ⟨_, h⟩ | ⟨_, _, _, h4, h⟩ | ⟨h0, h⟩ <;> rw [h] <;> simp [common, *]
                      split <;> omega
                    · obtain ⟨c, hc, h0, h1⟩ := wit
                      exact ⟨c, hc, by rw [form_hidden h0, h1, hex]; simp [common]⟩
                  | lo :: t, h, hr =>
                    by_cases hl : 15 < digitN lo ∨ hiddenN (16 * digitN hh + digitN lo) = false
                    · simp [esc, hg, hl] at h
                      subst h
                      have no : ∀ c, c < 256 → hiddenN c = true → c / 16 = digitN hh → hexN (c % 16) ≠ lo := by
                        intro c hc h0 h1 e
                        have d1 := digit_hex (c % 16) (by omega)
                        rw [e] at d1
                        rcases hl with hl | hl
                        · omega
                        · have : 16 * digitN hh + digitN lo = c := by omega
                          rw [this, h0] at hl
                          cases hl
                      refine ⟨fun c hc => ?_, ?_⟩
                      · rw [key c hc]
                        rcases form_cases c with ⟨_, h⟩ | ⟨_, h⟩ | ⟨_, h⟩ | ⟨_, _, _, h4, h⟩ | ⟨h0, h⟩ <;> rw [h] <;> simp [common, *]
                        by_cases e : hexN (c / 16) = hh
                        · have h1 : c / 16 = digitN hh := by rw [← e, digit_hex (c / 16) (by omega)]
                          have := no c hc h0 h1
                          simp [e, this]
                        · simp [e]
                      · obtain ⟨c, hc, h0, h1⟩ := wit
                        exact ⟨c, hc, by rw [form_hidden h0, h1, hex]; simp [common, no c hc h0 h1]⟩
                    · simp [esc, hg, hl] at h
            · have hd' : ¬ d = 34 ∧ ¬ d = 92 := by omega
              simp [esc, hd'.1, hd'.2, hn, hx] at h
              subst h
              refine ⟨fun c hc => ?_, 34, by omega, by rw [f34]; simp [common, Ne.symm hd'.1]⟩
              rw [key c hc]
              rcases form_cases c with ⟨_, h⟩ | ⟨_, h⟩ | ⟨_, h⟩ | ⟨_, _, _, h4, h⟩ | ⟨_, h⟩ <;> rw [h] <;> simp [common, Ne.symm hd'.1, Ne.symm hd'.2, Ne.symm hn, Ne.symm hx, *]
    · by_cases hp : b < 32 ∨ 126 < b
      · simp [one, hb, hp] at h
        subst h
        refine ⟨fun c hc => ?_, 0, by omega, by rw [f0]; simp [common, Ne.symm hb]⟩
        rcases form_cases c with ⟨_, h⟩ | ⟨_, h⟩ | ⟨_, h⟩ | ⟨h1, h2, _, h4, h⟩ | ⟨_, h⟩ <;> rw [h] <;> simp [common, Ne.symm hb]
        omega
      · simp [one, hb, hp] at h
end Go.Proofs.YtpkggobhhieeoaaDoor
namespace Go.Proofs.YtpkggobhhieeoaaDoor
def dec (u : Nat) : List Nat := if h : u < 10 then [48 + u] else dec (u / 10) ++ [48 + u % 10]
termination_by u
decreasing_by omega
def val (a : Nat) (l : List Nat) : Nat := l.foldl (fun a c => 10 * a + (c - 48)) a
def Digits (l : List Nat) : Prop := ∀ c ∈ l, 48 ≤ c ∧ c ≤ 57
instance (l : List Nat) : Decidable (Digits l) := inferInstanceAs (Decidable (∀ c ∈ l, 48 ≤ c ∧ c ≤ 57))
def showN (n : Int) : List Nat := if n < 0 then 45 :: dec n.natAbs else dec n.toNat
def intN (l : List Nat) : Option Int :=
  if l.head? = some 45 then
    if l.tail = [] ∨ 19 < l.tail.length ∨ l.tail.head? = some 48 then none else if Digits l.tail then (if 9223372036854775808 < val 0 l.tail then none else some (-(val 0 l.tail : Int))) else none
  else
    if l = [] ∨ 19 < l.length ∨ (l.head? = some 48 ∧ 1 < l.length) then none else if Digits l then (if 9223372036854775807 < val 0 l then none else some (val 0 l : Int)) else none
theorem dec_small {u : Nat} (h : u < 10) : dec u = [48 + u] := by rw [dec, dif_pos h]
theorem dec_big {u : Nat} (h : ¬ u < 10) : dec u = dec (u / 10) ++ [48 + u % 10] := by rw [dec, dif_neg h]
theorem val_app (a : Nat) (l m : List Nat) : val a (l ++ m) = val (val a l) m := by simp [val]
theorem val_dec (u : Nat) : val 0 (dec u) = u := by
  induction u using Nat.strongRecOn with
  | _ u ih =>
    by_cases h : u < 10
    · rw [dec_small h]; simp [val]
    · rw [dec_big h, val_app, ih (u / 10) (by omega)]; simp [val]; omega
theorem dec_digits (u : Nat) : Digits (dec u) := by
  induction u using Nat.strongRecOn with
  | _ u ih =>
    by_cases h : u < 10
    · rw [dec_small h]; intro c hc; simp at hc; omega
    · rw [dec_big h]; intro c hc
      rcases List.mem_append.1 hc with hc | hc
      · exact ih (u / 10) (by omega) c hc
      · simp at hc; omega
theorem dec_ne (u : Nat) : dec u ≠ [] := by
  by_cases h : u < 10
  · rw [dec_small h]; simp
  · rw [dec_big h]; simp
theorem dec_head (u : Nat) (h0 : u ≠ 0) : (dec u).head? ≠ some 48 := by
  induction u using Nat.strongRecOn with
  | _ u ih =>
    by_cases h : u < 10
    · rw [dec_small h]; simp; omega
    · rw [dec_big h]
      have h1 := ih (u / 10) (by omega) (by omega)
      have h2 := dec_ne (u / 10)
      cases hd : dec (u / 10) with
      | nil => exact absurd hd h2
      | cons a t => rw [hd] at h1; simpa using h1
theorem dec_len (u n : Nat) (h : u < 10 ^ n) (hn : 0 < n) : (dec u).length ≤ n := by
  induction n generalizing u with
  | zero => omega
  | succ n ih =>
    by_cases h1 : u < 10
    · rw [dec_small h1]; simp
    · rw [dec_big h1, List.length_append]
      have hn0 : 0 < n := by
        rcases Nat.eq_zero_or_pos n with rfl | hp
        · simp at h; omega
        · exact hp
      have := ih (u / 10) (by rw [Nat.pow_succ] at h; omega) hn0
      simp; omega
theorem val_pos {l : List Nat} (a : Nat) (ha : 0 < a) : 0 < val a l := by
  induction l generalizing a with
  | nil => exact ha
  | cons c l ih => exact ih (10 * a + (c - 48)) (by omega)
theorem dec_val : ∀ (n : Nat) (l : List Nat), l.length = n → l ≠ [] → Digits l → (l.head? ≠ some 48 ∨ l.length = 1) → dec (val 0 l) = l
  | 0, l, hn, hne, _, _ => absurd (List.eq_nil_of_length_eq_zero hn) hne
  | n + 1, l, hn, hne, hd, hh => by
    have hl := List.dropLast_concat_getLast hne
    generalize l.dropLast = m at hl
    generalize l.getLast hne = c at hl
    subst hl
    have hc := hd c (by simp)
    rw [val_app]
    cases hm : m with
    | nil => subst hm; rw [dec_small (by simp [val]; omega)]; simp [val]; omega
    | cons b t =>
      have hb := hd b (by simp [hm])
      have h48 : b ≠ 48 := by
        rcases hh with hh | hh
        · rw [hm] at hh; simpa using hh
        · rw [hm] at hh; simp at hh
      have ih := dec_val n m (by simpa using hn) (by rw [hm]; simp) (fun x hx => hd x (by simp [hx])) (Or.inl (by rw [hm]; simpa using h48))
      have hp : 0 < val 0 m := by rw [hm]; exact val_pos (l := t) (10 * 0 + (b - 48)) (by omega)
      rw [← hm]
      show dec (10 * val 0 m + (c - 48)) = m ++ [c]
      rw [dec_big (by omega)]
      have e1 : (10 * val 0 m + (c - 48)) / 10 = val 0 m := by omega
      have e2 : 48 + (10 * val 0 m + (c - 48)) % 10 = c := by omega
      rw [e1, e2, ih]
theorem intN_some {l : List Nat} {v : Int} (h : intN l = some v) : -9223372036854775808 ≤ v ∧ v ≤ 9223372036854775807 ∧ showN v = l ∧ l.length ≤ 20 := by
  unfold intN at h
  split at h
  · rename_i hb
    split at h
    · cases h
    · rename_i hc
      split at h
      · rename_i hd
        split at h
        · cases h
        · rename_i hv
          injection h with h
          subst h
          have h1 : l.tail ≠ [] := fun e => hc (Or.inl e)
          have h2 : ¬ 19 < l.tail.length := fun e => hc (Or.inr (Or.inl e))
          have h3 : l.tail.head? ≠ some 48 := fun e => hc (Or.inr (Or.inr e))
          have hdv := dec_val _ l.tail rfl h1 hd (Or.inl h3)
          have hl : l = 45 :: l.tail := by
            cases l with
            | nil => simp at hb
            | cons a t => simp at hb; simp [hb]
          have hp : 0 < val 0 l.tail := by
            rcases Nat.eq_zero_or_pos (val 0 l.tail) with h0 | h0
            · rw [h0] at hdv; rw [← hdv, dec_small (by omega)] at h3; simp at h3
            · exact h0
          refine ⟨by omega, by omega, ?_, ?_⟩
          · unfold showN
            rw [if_pos (by omega)]
            have : (-(val 0 l.tail : Int)).natAbs = val 0 l.tail := by omega
            rw [this, hdv, ← hl]
          · have e := congrArg List.length hl
            rw [List.length_cons] at e
            omega
      · cases h
  · rename_i hb
    split at h
    · cases h
    · rename_i hc
      split at h
      · rename_i hd
        split at h
        · cases h
        · rename_i hv
          injection h with h
          subst h
          have h1 : l ≠ [] := fun e => hc (Or.inl e)
          have h2 : ¬ 19 < l.length := fun e => hc (Or.inr (Or.inl e))
          have h3 : l.head? ≠ some 48 ∨ l.length = 1 := by
            by_cases e : l.head? = some 48
            · right
              have : ¬ 1 < l.length := fun e' => hc (Or.inr (Or.inr ⟨e, e'⟩))
              have : l.length ≠ 0 := fun e' => h1 (List.eq_nil_of_length_eq_zero e')
              omega
            · exact Or.inl e
          have hdv := dec_val _ l rfl h1 hd h3
          refine ⟨by omega, by omega, ?_, by omega⟩
          unfold showN
          rw [if_neg (by omega)]
          simp [hdv]
      · cases h
theorem intN_show {v : Int} (h1 : -9223372036854775808 ≤ v) (h2 : v ≤ 9223372036854775807) : intN (showN v) = some v := by
  unfold showN
  split
  · rename_i hneg
    obtain ⟨u, rfl⟩ : ∃ u : Nat, v = -(u : Int) := ⟨v.natAbs, by omega⟩
    have e : (-(u : Int)).natAbs = u := by omega
    rw [e]
    have hu : u ≠ 0 := by omega
    have hlen : (dec u).length ≤ 19 := dec_len u 19 (by omega) (by omega)
    unfold intN
    rw [if_pos (show (45 :: dec u).head? = some 45 from rfl)]
    have hc : ¬ ((45 :: dec u).tail = [] ∨ 19 < (45 :: dec u).tail.length ∨ (45 :: dec u).tail.head? = some 48) := by
      rw [List.tail_cons]
      intro hx
      rcases hx with hx | hx | hx
      · exact dec_ne u hx
      · omega
      · exact dec_head u hu hx
    rw [if_neg hc, if_pos (show Digits (45 :: dec u).tail from dec_digits u), if_neg (show ¬ 9223372036854775808 < val 0 (45 :: dec u).tail by rw [List.tail_cons, val_dec]; omega), List.tail_cons, val_dec]
  · rename_i hneg
    obtain ⟨u, rfl⟩ : ∃ u : Nat, v = (u : Int) := ⟨v.toNat, by omega⟩
    rw [Int.toNat_natCast]
    have hlen : (dec u).length ≤ 19 := dec_len u 19 (by omega) (by omega)
    have hne := dec_ne u
    have hdg := dec_digits u
    unfold intN
    have hh : (dec u).head? ≠ some 45 := by
      cases hd : dec u with
      | nil => simp
      | cons a t =>
        have := hdg a (by rw [hd]; simp)
        simp; omega
    rw [if_neg hh]
    have hc : ¬ (dec u = [] ∨ 19 < (dec u).length ∨ ((dec u).head? = some 48 ∧ 1 < (dec u).length)) := by
      intro hx
      rcases hx with hx | hx | ⟨hx, hy⟩
      · exact hne hx
      · omega
      · rcases Nat.eq_zero_or_pos u with h0 | h0
        · subst h0; rw [dec_small (by omega)] at hy; simp at hy
        · exact dec_head u (by omega) hx
    rw [if_neg hc, if_pos hdg, val_dec, if_neg (by omega)]
end Go.Proofs.YtpkggobhhieeoaaDoor
