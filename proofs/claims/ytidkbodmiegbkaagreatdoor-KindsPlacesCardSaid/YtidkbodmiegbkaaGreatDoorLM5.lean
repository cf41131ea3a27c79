/- Taken over out of another chapter (its text CrI): what is needed here. Taken over out of another chapter (its text ERd2): what is needed here. Taken over out of another chapter (its text ERt4): what is needed here. Taken over out of another chapter (its text InP): what is needed here. Taken over out of another chapter (its text Lh): what is needed here. -/
import Derived.Test.YtidkbodmiegbkaaGreatDoorProg
import Derived.Test.YtidkbodmiegbkaaGreatDoorShelf
import Derived.Test.YtidkbodmiegbkaaGreatDoorLM1
import Derived.Test.YtidkbodmiegbkaaGreatDoorLM2
import Derived.Test.YtidkbodmiegbkaaGreatDoorLM3
import Derived.Test.YtidkbodmiegbkaaGreatDoorLM4
import Derived.Below
import Derived.BigQuiet
import Derived.BigRegion
import Derived.Deep.AppendLies
import Derived.Deep.CutBlock
import Derived.Deep.CutRange
import Derived.Deep.Draws
import Derived.Deep.Fields
import Derived.Deep.LoopGhost
import Derived.Deep.QuietTactic
import Derived.Deep.RegionHeld2
import Derived.Deep.RegionHeld3
import Derived.Deep.RegionLaw
import Derived.Deep.Slices
import Derived.Defers
import Derived.IntWalk
import Derived.Laws.BytesString
import Derived.Laws.Cover1
import Derived.Laws.EntriesVeiled
import Derived.Laws.IdiomStrings
import Derived.Laws.MakeOwn
import Derived.Laws.Pointers
import Derived.Laws.Rows
import Derived.Lib.AppendStr
import Derived.Lib.Builder
import Derived.Lib.CutLaws
import Derived.Lib.FrozenHead
import Derived.Lib.Hide
import Derived.Lib.ItoaNum
import Derived.Lib.ParseIntB
import Derived.Lib.SliceRun
import Derived.Lib.SlicesS
import Derived.Maps.AppendAt
import Derived.Orders
import Derived.Outline
import Derived.OwnWalk
import Derived.ProofKit
import Derived.Recover
import Derived.RegionTactic
import Derived.StillTailTactics
import Derived.Tactics
import Derived.Tactics2
import Derived.WalkKit
import Derived.WalkMore
import Derived.WalkSmall
import Derived.WalkSpells
namespace Go.Proofs.YtidkbodmiegbkaaGreatDoor
set_option linter.unusedSimpArgs false
set_option linter.unusedVariables false
open Go.RowKit
theorem ndReadC {X Y : World} {v : Value} {l : List ND} (h : SlR X X.heap.size 4 (ND.Is X X.heap.size) v l) (hb : Below X.heap.size X Y) : SlR Y Y.heap.size 4 (ND.Is Y Y.heap.size) v l :=
  ((h.below hb).more hb.size).imp (fun x y h => ND.more (ND.keep h hb) hb.size)
/-- the block of a row that is not empty -/
theorem Own1.blk {α : Type} {w : World} {base size n c : Nat} {e : TypeId} {R : List Value → α → Prop} {a : Option Addr} {l : List α} (h : Own1 w base e size R (.slice a n c) l) : n = 0 ∨ ∃ g cs, a = some ⟨g, 0, none⟩ ∧ base ≤ g ∧ g < w.heap.size ∧ Blk w g e cs ∧ n * size ≤ cs.size := by
  obtain ⟨xs, ⟨h1, h2⟩, h3, h4⟩ := h
  rcases h2 with ⟨h2, h5⟩ | ⟨g, cap, cur, r1, r2, r3, r4, r5, r6, r7⟩
  · left
    injection h2
  · right
    injection r1 with e1 e2 e3
    have hb : Blk w g e cur := r3
    refine ⟨g, cur, e1, r2, hb.lt, hb, ?_⟩
    rw [e2, r6]
    exact Nat.mul_le_mul_right _ r4
end Go.Proofs.YtidkbodmiegbkaaGreatDoor
namespace Go.Proofs.YtidkbodmiegbkaaGreatDoor
set_option linter.unusedSimpArgs false
set_option linter.unusedVariables false
open Go.RowKit
/-- a node more, its parts' row made just ahead -/
theorem EL.add {X w2 w4 : World} {B : Nat} {mv mv' kv : Value} {es : List (EN × Value)} {e : EN} (h : EL X B mv es) (hB : B ≤ X.heap.size) (o o' : Obj) (hk : Own1 w2 X.heap.size 3 1 IsNat kv e.kids)
    (hg : (X.alloc o).grownBy w2 (some X.heap.size)) (hm : Own1 w4 B 40 4 IsEN mv' (es ++ [(e, kv)])) (hg' : (w2.alloc o').grownBy w4 mv.ownBlock) : EL w4 B mv' (es ++ [(e, kv)]) := by
  have hs : X.heap.size < (X.alloc o).heap.size := by rw [World.size_alloc]; omega
  have st : ∀ b, b < X.heap.size → (w2.alloc o').heap[b]? = X.heap[b]? := fun b hb => by
    have h2 : b < w2.heap.size := Nat.lt_of_lt_of_le (Nat.lt_trans hb hs) hg.size
    rw [Below.heap_alloc w2 o' b h2, hg.block b (Nat.lt_trans hb hs) (fun e => by injection e with e; omega), Below.heap_alloc X o b hb]
  have m2 : Own1 (w2.alloc o') B 40 4 IsEN mv es := h.main.stay (fun b hb hl => st b hl)
  have k2 : ∀ (i : Nat) (p : EN × Value), es[i]? = some p → Own1 (w2.alloc o') B 3 1 IsNat p.2 p.1.kids := fun i p hp => (h.kids i p hp).stay (fun b hb hl => st b hl)
  have key : ∀ (i : Nat) (p : EN × Value), (es ++ [(e, kv)])[i]? = some p → es[i]? = some p ∨ (i = es.length ∧ p = (e, kv)) := by
    intro i p hp
    rcases Nat.lt_or_ge i es.length with hl | hl
    · rw [List.getElem?_append_left hl] at hp; exact .inl hp
    · rw [List.getElem?_append_right hl] at hp
      have h0 := (List.getElem?_eq_some_iff.1 hp).1
      simp at h0
      have : i = es.length := by omega
      subst this
      simp at hp
      exact .inr ⟨rfl, hp.symm⟩
  refine ⟨hm, fun i p hp => ?_, fun i j p p' b hij hi hj hb => ?_⟩
  · rcases key i p hp with h1 | ⟨_, rfl⟩
    · exact (k2 i p h1).kept1 m2 (by decide) hg'
    · exact ((hk.mono hB).alloc o').kept1 m2 (by decide) hg'
  · rcases key i p hi with h1 | ⟨e1, rfl⟩
    · rcases key j p' hj with h2 | ⟨e2, rfl⟩
      · exact h.apart i j p p' b hij h1 h2 hb
      · intro e
        have := (h.kids i p h1).block b hb
        have := hk.block b e
        omega
    · rcases key j p' hj with h2 | ⟨e2, rfl⟩
      · intro e
        have := (h.kids j p' h2).block b e
        have := hk.block b hb
        omega
      · omega
end Go.Proofs.YtidkbodmiegbkaaGreatDoor
namespace Go.Proofs.YtidkbodmiegbkaaGreatDoor
set_option linter.unusedSimpArgs false
set_option linter.unusedVariables false
theorem nds_ok {t : Tr} (hg : t.Good) (p : Nat) : ∀ d ∈ ndsT t p, NdOk d := by
  have key : ∀ (n : Nat) (t : Tr), t.size ≤ n → t.Good → ∀ p, ∀ d ∈ ndsT t p, NdOk d := by
    intro n
    induction n with
    | zero => intro t h; have := size_pos t; omega
    | succ n ih =>
      intro t h hg p d hd
      obtain ⟨k, s, v, ks⟩ := t
      obtain ⟨⟨hsh, hb, h1, h2⟩, hk⟩ := hg
      unfold ndsT at hd
      simp only [Tr.flat, List.map_cons] at hd
      rcases List.mem_cons.1 hd with rfl | hd
      · refine ⟨hb, ?_, h1, h2⟩
        have hlen : ks.length = ((placesL ks (p + 1)).map (fun n : Nat => (n : Int))).length := by rw [List.length_map, places_len]
        have := may_text (may_of hlen hsh)
        show s.length ≤ _
        simp only at this
        omega
      · have kl : ∀ (ts : List Tr), sizeL ts ≤ n → GoodL ts → ∀ q, ∀ d ∈ (flatL ts q).map EN.nd, NdOk d := by
          intro ts
          induction ts with
          | nil => intro _ _ q d hd; simp [flatL] at hd
          | cons t ts iht =>
            intro hn hg q d hd
            simp only [sizeL] at hn
            simp only [flatL, List.map_append, List.mem_append] at hd
            rcases hd with hd | hd
            · exact ih t (by omega) hg.1 q d hd
            · exact iht (by omega) hg.2 _ d hd
        simp only [Tr.size] at h
        exact kl ks (by omega) hk _ d hd
  exact key t.size t (Nat.le_refl _) hg p
end Go.Proofs.YtidkbodmiegbkaaGreatDoor
namespace Go.Proofs.YtidkbodmiegbkaaGreatDoor
set_option linter.unusedSimpArgs false
set_option linter.unusedVariables false
open Go.RowKit
theorem quiet_calln2 {P : Program} {f : FuncId} {args : Array Value} {w : World} {a n : Nat} {v : Value} (h : Calls P f args (w.drewN (a + n)) fun e w' => e = .returned v ∧ Quiet (w.drewN (a + n)) w') :
    Calls P f args (w.drewN (a + n)) fun e w'' => e = .returned v ∧ ∃ m, w'' = w.drewN (a + m) :=
  h.mono fun _ _ ⟨he, m, hm⟩ => ⟨he, n + m, by rw [hm, World.drewN_drewN, Nat.add_assoc]⟩
end Go.Proofs.YtidkbodmiegbkaaGreatDoor
namespace Go.Proofs.YtidkbodmiegbkaaGreatDoor
set_option linter.unusedSimpArgs false
set_option linter.unusedVariables false
open Go.RowKit
theorem wf47 {x : Int} (h1 : -9223372036854775808 ≤ x) (h2 : x ≤ 9223372036854775807) : (Lit.int .i64 x).wf = true := by
  simpa [Lit.wf, IntKind.min, IntKind.max, IntKind.signed, IntKind.bits] using ⟨h1, h2⟩
end Go.Proofs.YtidkbodmiegbkaaGreatDoor
