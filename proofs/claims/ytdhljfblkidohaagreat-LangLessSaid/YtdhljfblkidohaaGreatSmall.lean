/- The chapter's example: what 'small' makes, and how it reads. -/
import Derived.Test.YtdhljfblkidohaaGreatOwn
import Derived.Test.YtdhljfblkidohaaGreatProg
import Derived.Test.YtdhljfblkidohaaGreatChkPlain
import Derived.WalkSpells
namespace Go.Proofs.YtdhljfblkidohaaGreat
set_option linter.unusedSimpArgs false
set_option linter.unusedVariables false
open Go.RowKit

/-- the example: its part 'arg' with so many at most -/
def smallD (m : Int) : Language := ⟨⟨#[97]⟩, 1, [], [⟨⟨#[78, 117, 109]⟩, ⟨#[]⟩, false, [⟨⟨#[118]⟩, 2⟩], [], []⟩, ⟨⟨#[83, 117, 109]⟩, ⟨#[78, 117, 109]⟩, false, [], [⟨⟨#[97, 114, 103]⟩, ⟨#[78, 117, 109]⟩, 1, m⟩], [⟨⟨#[116, 111]⟩, ⟨#[78, 117, 109]⟩, false⟩]⟩], [], [], [], []⟩
def bareD : Language := ⟨⟨#[97]⟩, 0, [], [], [], [], [], []⟩
theorem small_right : checkE (smallD 0) = ⟨0, 0, 0, 0⟩ := by kernel_rfl
theorem small_wrong : checkE (smallD 2) = ⟨2, 1, 1, 44⟩ := by kernel_rfl
theorem bare_wrong : checkE bareD = ⟨0, 1, 0, 2⟩ := by kernel_rfl
/-- the example's rows -/
structure SmallS (W : World) (g : Nat) (m : Int) : Prop where
  props : Blk W g 105 #[.string ⟨#[118]⟩, .int .i64 2]
  kids : Blk W (g + 1) 62 #[.string ⟨#[97, 114, 103]⟩, .string ⟨#[78, 117, 109]⟩, .int .i64 1, .int .i64 m]
  refs : Blk W (g + 1 + 1) 107 #[.string ⟨#[116, 111]⟩, .string ⟨#[78, 117, 109]⟩, .bool false]
  concepts : Blk W (g + 1 + 1 + 1) 47 #[.string ⟨#[78, 117, 109]⟩, .string ⟨#[]⟩, .bool false, .slice (some ⟨g, 0, none⟩) 1 1, .slice none 0 0, .slice none 0 0, .string ⟨#[83, 117, 109]⟩, .string ⟨#[78, 117, 109]⟩, .bool false, .slice none 0 0, .slice (some ⟨g + 1, 0, none⟩) 1 1, .slice (some ⟨g + 1 + 1, 0, none⟩) 1 1]
abbrev smallX (g : Nat) : List Value := [.string ⟨#[97]⟩, .int .i64 1, .slice none 0 0, .slice (some ⟨g + 1 + 1 + 1, 0, none⟩) 2 2, .slice none 0 0, .slice none 0 0, .slice none 0 0, .slice none 0 0]
theorem SmallS.below {w W : World} {g : Nat} {m : Int} (h : SmallS w g m) (b : Below w.heap.size w W) : SmallS W g m := ⟨h.props.below b h.props.lt, h.kids.below b h.kids.lt, h.refs.below b h.refs.lt, h.concepts.below b h.concepts.lt⟩
theorem Blk.own {α : Type} {W : World} {g n size : Nat} {t : TypeId} {xs : List Value} {R : List Value → α → Prop} {l : List α} (h : Blk W g t xs.toArray) (hl : l.length = n) (hn : n ≤ maxLen) (hf : FlatR size R xs l) : Own1 W 0 t size R (.slice (some ⟨g, 0, none⟩) n n) l := by
  subst hl
  exact ⟨xs, ⟨hf.1, .inr ⟨g, _, _, rfl, Nat.zero_le _, h, Nat.le_refl _, hn, by simpa using hf.1, by rw [List.take_of_length_le (by rw [hf.1]; exact Nat.le_refl _)]⟩⟩, hf⟩
theorem SmallS.is {W : World} {g : Nat} {m : Int} (h : SmallS W g m) (hm : (Lit.int .i64 m).wf = true) : Language.Is W W.heap.size (smallX g) (smallD m) := by
  have hx : ∀ k : Nat, k ≤ 3 → k ≤ maxLen := fun k hk => by unfold maxLen; omega
  have one : (Lit.int .i64 1).wf = true := by decide
  have sz : ∀ (s : ByteArray) (k : Nat), s.size = k → k ≤ 3 → s.size ≤ maxLen := fun s k h1 h2 => by rw [h1]; exact hx k h2
  have p1 : SlR W W.heap.size 2 PropDef.Is (.slice (some ⟨g, 0, none⟩) 1 1) [⟨⟨#[118]⟩, 2⟩] := (Blk.own (n := 1) (l := [(⟨⟨#[118]⟩, 2⟩ : PropDef)]) (size := 2) (xs := [.string ⟨#[118]⟩, .int .i64 2]) h.props rfl (hx 1 (by omega)) (FlatR.one rfl ⟨rfl, by decide, sz _ 1 rfl (by decide)⟩)).read (by omega)
  have p2 : SlR W W.heap.size 4 KidDef.Is (.slice (some ⟨g + 1, 0, none⟩) 1 1) [⟨⟨#[97, 114, 103]⟩, ⟨#[78, 117, 109]⟩, 1, m⟩] := (Blk.own (n := 1) (l := [(⟨⟨#[97, 114, 103]⟩, ⟨#[78, 117, 109]⟩, 1, m⟩ : KidDef)]) (size := 4) (xs := [.string ⟨#[97, 114, 103]⟩, .string ⟨#[78, 117, 109]⟩, .int .i64 1, .int .i64 m]) h.kids rfl (hx 1 (by omega)) (FlatR.one rfl ⟨rfl, one, hm, sz _ 3 rfl (by decide), sz _ 3 rfl (by decide)⟩)).read (by omega)
  have p3 : SlR W W.heap.size 3 RefDef.Is (.slice (some ⟨g + 1 + 1, 0, none⟩) 1 1) [⟨⟨#[116, 111]⟩, ⟨#[78, 117, 109]⟩, false⟩] := (Blk.own (n := 1) (l := [(⟨⟨#[116, 111]⟩, ⟨#[78, 117, 109]⟩, false⟩ : RefDef)]) (size := 3) (xs := [.string ⟨#[116, 111]⟩, .string ⟨#[78, 117, 109]⟩, .bool false]) h.refs rfl (hx 1 (by omega)) (FlatR.one rfl ⟨rfl, sz _ 2 rfl (by decide), sz _ 3 rfl (by decide)⟩)).read (by omega)
  have nil : ∀ {α : Type} (size : Nat) (R : List Value → α → Prop), SlR W W.heap.size size R (.slice none 0 0) [] := fun _ _ => SlR.nil_ _ (by unfold maxLen; omega) _
  have p4 : SlR W W.heap.size 6 (Concept.Is W W.heap.size) (.slice (some ⟨g + 1 + 1 + 1, 0, none⟩) 2 2) (smallD m).concepts :=
    (Blk.own (n := 2) (l := (smallD m).concepts) (size := 6) (xs := [.string ⟨#[78, 117, 109]⟩, .string ⟨#[]⟩, .bool false, .slice (some ⟨g, 0, none⟩) 1 1, .slice none 0 0, .slice none 0 0] ++ [.string ⟨#[83, 117, 109]⟩, .string ⟨#[78, 117, 109]⟩, .bool false, .slice none 0 0, .slice (some ⟨g + 1, 0, none⟩) 1 1, .slice (some ⟨g + 1 + 1, 0, none⟩) 1 1]) h.concepts rfl (hx 2 (by omega)) ((FlatR.one rfl ⟨_, _, _, rfl, p1, nil _ _, nil _ _, by simp [Fit], by simp [Fit], by simp [Fit], sz _ 3 rfl (by decide), sz _ 0 rfl (by decide)⟩).app (FlatR.one rfl ⟨_, _, _, rfl, nil _ _, p2, p3, by simp [Fit], by simp [Fit], by simp [Fit], sz _ 3 rfl (by decide), sz _ 3 rfl (by decide)⟩))).read (by omega)
  exact ⟨_, _, _, _, _, _, rfl, nil _ _, p4, nil _ _, nil _ _, nil _ _, nil _ _, ⟨by simp [smallD, Fit], by simp [smallD, Fit], by simp [smallD, Fit], by simp [smallD, Fit], by simp [smallD, Fit], by simp [smallD, Fit]⟩, sz _ 1 rfl (by decide), one⟩
theorem bareD_is (W : World) : Language.Is W W.heap.size [.string ⟨#[97]⟩, .int .i64 0, .slice none 0 0, .slice none 0 0, .slice none 0 0, .slice none 0 0, .slice none 0 0, .slice none 0 0] bareD := by
  have nil : ∀ {α : Type} (size : Nat) (R : List Value → α → Prop), SlR W W.heap.size size R (.slice none 0 0) [] := fun _ _ => SlR.nil_ _ (by unfold maxLen; omega) _
  exact ⟨_, _, _, _, _, _, rfl, nil _ _, nil _ _, nil _ _, nil _ _, nil _ _, nil _ _, ⟨by simp [bareD, Fit], by simp [bareD, Fit], by simp [bareD, Fit], by simp [bareD, Fit], by simp [bareD, Fit], by simp [bareD, Fit]⟩, by show (1 : Nat) ≤ maxLen; unfold maxLen; omega, by decide⟩
theorem small_any (w : World) : Calls Tryz.prog 12 #[] w fun e w' => e = .returned (.agg (smallX (w.heap.size + 1)).toArray) ∧ SmallS w' (w.heap.size + 1) 0 ∧ Below w.heap.size w w' := by
  go_enter Tryz.func12, Tryz.ntmps12
  go_wp2_with fail
  refine bodyPost_ret (v := .agg (smallX (w.heap.size + 1)).toArray) (by simp [results, Tryz.results12, go_sem]) rfl ⟨rfl, ?_⟩
  refine ⟨⟨(((Blk.new_ (by simp) _ _).alloc _).alloc _).alloc _, ((Blk.new_ (by simp) _ _).alloc _).alloc _, (Blk.new_ (by simp) _ _).alloc _, Blk.new_ (by simp) _ _⟩, ?_⟩
  exact (((((Below.refl w.heap.size w).alloc (Nat.le_refl _) _).alloc (below2 (Nat.le_refl _)) _).alloc (below3 (Nat.le_refl _)) _).alloc (by simp; omega) _).alloc (by simp; omega) _
end Go.Proofs.YtdhljfblkidohaaGreat
