import Derived.Test.YtdhljfblkidohaaOwn
import Derived.Test.YtdhljfblkidohaaProg
import Derived.WalkSpells
import Derived.StillTailTactics
import Derived.Outline
namespace Go.Proofs.Ytdhljfblkidohaa
set_option linter.unusedSimpArgs false
set_option linter.unusedVariables false
open Go.RowKit


theorem info_int : (Try.prog.info? 3).map (fun i => (i.zero, i.size, i.bytes)) = some (some (.int .i64 0), 1, 8) := by kernel_rfl
theorem info_Side : (Try.prog.info? 68).map (fun i => (i.zero, i.size, i.bytes)) = some (some (.agg #[.int .i64 0, .string .empty, .int .i64 0, .slice none 0 0]), 4, 56) := by kernel_rfl
def Side.Own (w : World) (base : Nat) (x : List Value) (d : Side) : Prop :=
  ∃ v, x = [.int .i64 d.kind, .string d.name, .int .i64 d.num, v] ∧ Own1 w base 3 1 IsInt v d.args ∧ Fit d.args.length 8 ∧ (Lit.int .i64 d.kind).wf = true ∧ d.name.size ≤ maxLen ∧ (Lit.int .i64 d.num).wf = true

set_option maxHeartbeats 1000000 in
theorem twin_side {l : List Side} {v : Value} (w w0 : World) (hs : SlR w0 w0.heap.size 4 (Side.Is w0 w0.heap.size) v l) (hfit : Fit l.length 56) (hw : Below w0.heap.size w0 w) :
    Calls Try.prog 35 #[v] w fun e w' => ∃ v', e = .returned v' ∧ Own1 w' w.heap.size 68 4 (Side.Own w' w.heap.size) v' l ∧ Below w.heap.size w w' := by
  obtain ⟨a, c, rfl⟩ : ∃ a c, v = .slice a l.length c := by obtain ⟨a, c, h, _⟩ := hs.form; exact ⟨a, c, h⟩
  have hn : l.length ≤ 9223372036854775807 := by have := hs.caps; unfold maxLen at this; omega
  obtain ⟨i1, hi1, hz1, hs1, hb1⟩ := info_parts info_int
  obtain ⟨i2, hi2, hz2, hs2, hb2⟩ := info_parts info_Side
  have I1 := Lib.hid (And.intro hi1 (And.intro hz1 (And.intro hs1 hb1)))
  have I2 := Lib.hid (And.intro hi2 (And.intro hz2 (And.intro hs2 hb2)))
  clear hi1 hz1 hs1 hb1 hi2 hz2 hs2 hb2
  obtain ⟨n, hlen⟩ : ∃ n, l.length = n := ⟨_, rfl⟩
  rw [hlen] at hs hn hfit ⊢
  have Hlen := Lib.hid hlen
  have Hs := Lib.hid hs
  have Hw := Lib.hid hw
  have Hfit := Lib.hid hfit
  clear hs hlen hw hfit
  go_enter Try.func35, Try.ntmps35
  go_wp2_with fail
  go_loopw [3, 4] (fun o i wr => ∃ k : Nat, k ≤ n ∧ i = .int .i64 k ∧ Below w.heap.size w wr ∧ Hid (Own1 wr w.heap.size 68 4 (Side.Own wr w.heap.size) o (l.take k))) (fun _ i _ => n - (intOf i).toNat)
  case atStart => exact ⟨0, Nat.zero_le _, rfl, Below.refl _ _, ⟨[], World.ownsRow_nil _ _ _ _, FlatR.nil_⟩⟩
  case round =>
    obtain ⟨k, hk, rfl, hb, ho⟩ := hrel
    by_cases hlt : k < n
    · obtain ⟨y, hd⟩ := get_some Hlen.out hlt
      have hw1 := Hw.out.trans (hb.mono Hw.out.size)
      obtain ⟨b, off, x, rfl, hbB, hxl, ⟨v1, rfl, s1, hrest⟩, hx⟩ := (Hs.out.below hw1).at_ hd
      obtain ⟨pa, pn, pc, rfl⟩ := s1.form'
      have F1 : pn ≤ maxLen := by have := s1.caps; omega
      have F2 : pn * 8 ≤ 140737488355328 := by have := hrest.1; rw [← s1.len] at this; exact this
      have h0 := hx 0 _ rfl
      have h1 := hx 1 _ rfl
      have h2 := hx 2 _ rfl
      have h3 := hx 3 _ rfl
      simp only [Nat.add_zero] at h0
      have hbz := hw1.size
      have hbw : b < wr.heap.size := by omega
      have Hd := Lib.hid hd
      have Hr := Lib.hid hrest
      have S1 := Lib.hid s1
      have Hw1 := Lib.hid hw1
      clear hd hx hxl hrest s1 hw1 hbz
      have Hb := Lib.hid hb
      clear hb
      have tok1 : True := trivial
      go_wp2_with (first
        | (at_builtin
           have _t := tok1
           go_must (refine wpList_append_list rfl (.tmp 16) (.tmp 18) _ rfl (wr.heap.size + 1) w0.heap.size 3 i1 _ 1 8 Try.underlying66 I1.out.1 I1.out.2.1 I1.out.2.2.1 I1.out.2.2.2 rfl (by omega) (R := IsInt) (l := []) (m := y.args) (.slice (some ⟨wr.heap.size + 1, 0, none⟩) 0 0) rfl (by exact Own1.empty (by rw [World.size_alloc]) (by rw [World.size_alloc]; omega)) pa pn pc rfl (by exact S1.out.below ((Hw1.out.alloc Hw1.out.size _).alloc (below2 Hw1.out.size) _)) pn (by simp) (fun x y hx u hu => by rw [hx.1] at hu; simp at hu; subst hu; rfl) (by simpa using F1) (by simpa using F2) (by rw [World.size_alloc, World.size_alloc]; omega) ?_)
           intro va vc w1 hown1 hgrow1
           clear tok1 _t
           have hz1 : wr.heap.size + 1 < w1.heap.size := by have := hgrow1.size; simp at this; omega
           have hz2 : wr.heap.size < w1.heap.size := by omega
           have d0 : w1.cell? ⟨wr.heap.size, 0, none⟩ = some (.int .i64 y.kind) := (hgrow1.cell_far _ (by simp; omega) (by simp [Value.ownBlock])).trans (by simp)
           have d1 : w1.cell? ⟨wr.heap.size, 1, none⟩ = some (.string y.name) := (hgrow1.cell_far _ (by simp; omega) (by simp [Value.ownBlock])).trans (by simp)
           have d2 : w1.cell? ⟨wr.heap.size, 2, none⟩ = some (.int .i64 y.num) := (hgrow1.cell_far _ (by simp; omega) (by simp [Value.ownBlock])).trans (by simp)
           have d3 : w1.cell? ⟨wr.heap.size, 3, none⟩ = some (.slice pa pn pc) := (hgrow1.cell_far _ (by simp; omega) (by simp [Value.ownBlock])).trans (by simp)
           have d4 : w1.frozen? ⟨wr.heap.size, 3, none⟩ = false := (hgrow1.frozen_far _ (by simp; omega) (by simp [Value.ownBlock])).trans (by simp)
           have B1 : Hid (Below wr.heap.size wr w1) := (((Below.refl wr.heap.size wr).alloc (Nat.le_refl _) _).alloc (below2 (Nat.le_refl _)) _).grown hgrow1 (below3 (Nat.le_refl _)) (fun k hk => by simp [Value.ownBlock] at hk; omega)
           have O1 := Lib.hid hown1
           clear hown1 hgrow1)
        | (at_builtin
           have hBW := (B1.out.setCell (p := ⟨wr.heap.size, 3, none⟩) (Nat.le_refl _) (.slice va pn vc)).alloc (by simp [World.setCell]; omega) (.cells #[.int .i64 y.kind, .string y.name, .int .i64 y.num, .slice va pn vc] 68)
           have hin : Own1 ((w1.setCell ⟨wr.heap.size, 3, none⟩ (.slice va pn vc)).alloc (.cells #[.int .i64 y.kind, .string y.name, .int .i64 y.num, .slice va pn vc] 68)) w.heap.size 3 1 IsInt (.slice va pn vc) y.args := ((O1.out.setFar (by show wr.heap.size < _; omega) _).alloc _).mono (by have := Hb.out.size; omega)
           have hR : Side.Own ((w1.setCell ⟨wr.heap.size, 3, none⟩ (.slice va pn vc)).alloc (.cells #[.int .i64 y.kind, .string y.name, .int .i64 y.num, .slice va pn vc] 68)) w.heap.size [.int .i64 y.kind, .string y.name, .int .i64 y.num, .slice va pn vc] y := ⟨_, rfl, hin, Hr.out⟩
           have hout := (ho.out.below hBW (Nat.le_refl _)).imp (fun x d ⟨v, e, h1, h2⟩ => (⟨v, e, h1.below hBW (Nat.le_refl _), h2⟩ : Side.Own ((w1.setCell ⟨wr.heap.size, 3, none⟩ (.slice va pn vc)).alloc (.cells #[.int .i64 y.kind, .string y.name, .int .i64 y.num, .slice va pn vc] 68)) w.heap.size x d))
           have hlk : (l.take k).length = k := by rw [List.length_take, Hlen.out]; omega
           have Hlk := Lib.hid hlk
           have HBW := Lib.hid hBW
           have Hout := Lib.hid hout
           have HR := Lib.hid hR
           clear hlk hBW hout hR hin
           go_must (refine wpList_append_list rfl (.tmp 21) (.tmp 23) _ rfl w.heap.size ((w1.setCell ⟨wr.heap.size, 3, none⟩ (.slice va pn vc)).heap.size + 1) 68 i2 _ 4 56 Try.underlying33 I2.out.1 I2.out.2.1 I2.out.2.2.1 I2.out.2.2.2 rfl (by omega) (R := Side.Own ((w1.setCell ⟨wr.heap.size, 3, none⟩ (.slice va pn vc)).alloc (.cells #[.int .i64 y.kind, .string y.name, .int .i64 y.num, .slice va pn vc] 68)) w.heap.size) (l := l.take k) (m := [y]) u3 rfl (by exact Hout.out) (some ⟨w1.heap.size, 0, none⟩) 1 1 rfl (by exact SlR.new1 (by simp [World.setCell]) rfl HR.out) (k + 1) (by rw [Hlk.out]) (fun x y hx u hu => by obtain ⟨v, rfl, h1, _⟩ := hx; obtain ⟨_, _, rfl⟩ := h1.form; simp at hu; rcases hu with rfl | rfl | rfl | rfl <;> rfl) (by rw [Hlk.out]; unfold maxLen; omega) (by rw [Hlk.out]; have := Hfit.out; unfold Fit at this; omega) (by have := HBW.out.size; have := Hb.out.size; omega) ?_)
           intro vb vd w4 hown4 hgrow4
           have H4 := Lib.hid hown4
           have G4 := Lib.hid hgrow4
           clear hown4 hgrow4))
      go_roundw
      case rel =>
        refine ⟨k + 1, by omega, by go_num, (Hb.out.trans (HBW.out.mono Hb.out.size)).grown G4.out (by have := HBW.out.size; have := Hb.out.size; omega) (fun g hg => (Hout.out.block g hg).1), ?_⟩
        have hk1 : k < l.length := by rw [Hlen.out]; exact hlt
        have hy : l[k] = y := (List.getElem?_eq_some_iff.1 Hd.out).2
        rw [List.take_succ_eq_append_getElem hk1, hy]
        exact H4.out.imp (fun x d ⟨v, e, h1, h2⟩ => ⟨v, e, h1.kept1 Hout.out (by decide) G4.out, h2⟩)
      case measure => simp [intOf]; omega

    · have hge : n ≤ k := by omega
      clear hlt
      go_wp2_with fail
      go_ret
      exact ⟨_, rfl, by have := ho.out; rwa [List.take_of_length_le (by rw [Hlen.out]; exact hge)] at this, hb⟩

end Go.Proofs.Ytdhljfblkidohaa
