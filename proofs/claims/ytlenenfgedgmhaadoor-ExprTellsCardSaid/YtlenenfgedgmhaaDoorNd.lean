/- A node as it may come in, in plain words; which nodes may be. -/
import Derived.Test.YtlenenfgedgmhaaDoorMParse
import Derived.Test.YtlenenfgedgmhaaDoorJoinPlain
namespace Go.Proofs.YtlenenfgedgmhaaDoor
set_option linter.unusedSimpArgs false
set_option linter.unusedVariables false
open Go.RowKit

/-- a node -/
structure ND where
  kind : Int
  text : List Nat
  num : Int
  kids : List Int
  deriving DecidableEq
/-- a number's cell -/
def IsI (x : List Value) (n : Int) : Prop := x = [.int .i64 n]
/-- a node that is read -/
def ND.Is (w : World) (B : Nat) (x : List Value) (d : ND) : Prop := ∃ kv, x = [.int .i64 d.kind, .string (txt d.text), .int .i64 d.num, kv] ∧ SlR w B 1 IsI kv d.kids
/-- a node that the program has read -/
def EN.nd (d : EN) : ND := ⟨d.kind, d.text, d.num, d.kids.map fun n : Nat => (n : Int)⟩
theorem SlR.map_ {α β : Type} {w : World} {B size : Nat} {R : List Value → α → Prop} {R' : List Value → β → Prop} {v : Value} {l : List α} (f : α → β) (h : SlR w B size R v l) (hR : ∀ x y, R x y → R' x (f y)) : SlR w B size R' v (l.map f) := by
  obtain ⟨a, c, e1, e2, e3, e4⟩ := h
  refine ⟨a, c, by rw [List.length_map]; exact e1, by rw [List.length_map]; exact e2, e3, fun hl => ?_⟩
  rw [List.length_map] at hl
  obtain ⟨b, off, k1, k2, k3⟩ := e4 hl
  refine ⟨b, off, k1, k2, fun i y hy => ?_⟩
  rw [List.getElem?_map] at hy
  obtain ⟨z, hz, rfl⟩ := Option.map_eq_some_iff.1 hy
  obtain ⟨x, m1, m2, m3⟩ := k3 i z hz
  exact ⟨x, m1, hR x z m2, m3⟩
theorem ENode.nd {w : World} {B : Nat} {x : List Value} {d : EN} (h : ENode.Is w B x d) : ND.Is w B x d.nd := by
  obtain ⟨kv, rfl, h2⟩ := h
  exact ⟨kv, rfl, h2.map_ _ (fun x y h => h)⟩
theorem ND.keep {w w' : World} {B : Nat} {x : List Value} {d : ND} (h : ND.Is w B x d) (hb : Below B w w') : ND.Is w' B x d := by
  obtain ⟨kv, h1, h2⟩ := h
  exact ⟨kv, h1, h2.below hb⟩
theorem ND.more {w : World} {B B' : Nat} {x : List Value} {d : ND} (h : ND.Is w B x d) (hb : B ≤ B') : ND.Is w B' x d := by
  obtain ⟨kv, h1, h2⟩ := h
  exact ⟨kv, h1, h2.more hb⟩
/-- behind more memory, rows read again -/
theorem ndRead {X Y : World} {v : Value} {l : List ND} (h : SlR X X.heap.size 4 (ND.Is X X.heap.size) v l) (hb : Below X.heap.size X Y) : SlR Y Y.heap.size 4 (ND.Is Y Y.heap.size) v l :=
  ((h.below hb).more hb.size).imp (fun x y h => ND.more (ND.keep h hb) hb.size)
/-- what a node may hold: bytes, and not more than memory has -/
def NdOk (d : ND) : Prop := Bytes d.text ∧ d.text.length ≤ 140737488355328 ∧ -9223372036854775808 ≤ d.num ∧ d.num ≤ 9223372036854775807

/-- how many parts a Kind has -/
def kidsN (k : Int) : Int := if 1 ≤ k ∧ k ≤ 7 then 0 else if (8 ≤ k ∧ k ≤ 19) ∨ k = 29 then 1 else if (20 ≤ k ∧ k ≤ 28) ∨ (31 ≤ k ∧ k ≤ 34) then 2 else if k = 30 then 3 else -1
def namedL : List Int := [7, 8, 9, 10, 12, 13, 31, 32, 33, 34]
/-- a name that is no reserved word -/
def plainN (s : List Nat) : Bool := rightN s && !decide (s ∈ wordsL)
/-- may a node be, by itself? -/
def mayE (d : ND) : Bool :=
  decide (kidsN d.kind = (d.kids.length : Int)) && !(decide (d.num ≠ 0) && decide (d.kind ≠ 1)) && !decide (d.num = -9223372036854775808) &&
    (if d.kind ∈ namedL then plainN d.text else decide (d.text = []) || (decide (d.kind = 2) && decide (d.text.length ≤ 4096)))
/-- the parts of a node, each next where the one ahead ended: how deep, where it ends -/
def metL (g : Nat → Option (Nat × Nat)) : List Int → Nat → Nat → Option (Nat × Nat)
  | [], n, dp => some (dp, n)
  | k :: ks, n, dp => if k = (n : Int) then (match g n with | none => none | some r => metL g ks r.2 (max dp r.1)) else none
/-- a node at a place, and all below it: how deep, where it ends -/
def metN (l : List ND) : Nat → Nat → Option (Nat × Nat)
  | 0, _ => none
  | f + 1, m => match l[m]? with
    | none => none
    | some d => if mayE d = true then (metL (metN l f) d.kids (m + 1) 0).map fun r => (r.1 + 1, r.2) else none
/-- P8.2 -/
def rightE (l : List ND) : Nat :=
  if 256 < l.length then 4
  else match metN l l.length 0 with
    | none => 80
    | some r => if r.2 ≠ l.length then 80 else if 32 < r.1 then 4 else 0
theorem metL_in {l : List ND} {g : Nat → Option (Nat × Nat)} (hg : ∀ n r, g n = some r → n < r.2 ∧ r.2 ≤ l.length ∧ 1 ≤ r.1 ∧ r.1 + n ≤ r.2) : ∀ (ks : List Int) (n dp : Nat) (r : Nat × Nat), n ≤ l.length → metL g ks n dp = some r → n ≤ r.2 ∧ r.2 ≤ l.length ∧ dp ≤ r.1 ∧ (r.1 ≤ dp ∨ r.1 + n ≤ r.2)
  | [], n, dp, r, hn, h => by simp only [metL] at h; injection h with h; subst h; simp; exact hn
  | k :: ks, n, dp, r, hn, h => by
    simp only [metL] at h
    split at h
    · split at h
      · cases h
      · rename_i x hx
        obtain ⟨h1, h2, h3, h4⟩ := hg n x hx
        obtain ⟨k1, k2, k3, k4⟩ := metL_in hg ks x.2 (max dp x.1) r h2 h
        refine ⟨by omega, k2, by omega, ?_⟩
        rcases k4 with k4 | k4 <;> omega
    · cases h
theorem metN_in (l : List ND) : ∀ (f m : Nat) (r : Nat × Nat), metN l f m = some r → m < r.2 ∧ r.2 ≤ l.length ∧ 1 ≤ r.1 ∧ r.1 + m ≤ r.2
  | 0, m, r, h => by simp only [metN] at h; cases h
  | f + 1, m, r, h => by
    simp only [metN] at h
    cases hd : l[m]? with
    | none => rw [hd] at h; cases h
    | some d =>
      rw [hd] at h
      have hm := (List.getElem?_eq_some_iff.1 hd).1
      simp only at h
      split at h
      · obtain ⟨x, hx, rfl⟩ := Option.map_eq_some_iff.1 h
        obtain ⟨k1, k2, k3, k4⟩ := metL_in (l := l) (fun n r hr => metN_in l f n r hr) d.kids (m + 1) 0 x hm hx
        simp only
        refine ⟨by omega, k2, by omega, ?_⟩
        rcases k4 with k4 | k4 <;> omega
      · cases h
end Go.Proofs.YtlenenfgedgmhaaDoor
