/- A language more, at the end: 'topiarylaw24.ModulesMore' returns true wherever what it reads is of the bulk at most; no condition but the reach. -/
import Derived.Test.YtikplcpghohklaaGreatZShare
import Derived.Test.YtikplcpghohklaaGreatModMore
import Derived.Deep.RegionHeld3
import Derived.Deep.CutRange
import Derived.Test.YtikplcpghohklaaGreatOpen
import Derived.Test.YtikplcpghohklaaGreatRows
import Derived.ProofKit
import Derived.OpenShut
import Derived.ShutString
import Derived.ChangeOld
import Derived.Deep.CondSized
namespace Go.Proofs.YtikplcpghohklaaGreat
set_option linter.unusedSimpArgs false
set_option linter.unusedVariables false
open Go.RowKit

theorem Language.Is.shape {w : World} {B : Nat} (x : List Value) (d : Language) (h : Language.Is w B x d) : ∃ (e0 : ByteArray) (e1 : Int) (e2 : Option Addr) (en2 ec2 : Nat) (e3 : Option Addr) (en3 ec3 : Nat) (e4 : Option Addr) (en4 ec4 : Nat) (e5 : Option Addr) (en5 ec5 : Nat) (e6 : Option Addr) (en6 ec6 : Nat) (e7 : Option Addr) (en7 ec7 : Nat), x = [.string e0, .int .i64 e1, .slice e2 en2 ec2, .slice e3 en3 ec3, .slice e4 en4 ec4, .slice e5 en5 ec5, .slice e6 en6 ec6, .slice e7 en7 ec7] := by
  obtain ⟨v2, v3, v4, v5, v6, v7, rfl, h2, h3, h4, h5, h6, h7, _⟩ := h
  obtain ⟨_, _, _, rfl⟩ := h2.form'
  obtain ⟨_, _, _, rfl⟩ := h3.form'
  obtain ⟨_, _, _, rfl⟩ := h4.form'
  obtain ⟨_, _, _, rfl⟩ := h5.form'
  obtain ⟨_, _, _, rfl⟩ := h6.form'
  obtain ⟨_, _, _, rfl⟩ := h7.form'
  exact ⟨_, _, _, _, _, _, _, _, _, _, _, _, _, _, _, _, _, _, _, _, rfl⟩
theorem SlR.grown_ {α : Type} {w w' : World} {B size : Nat} {R : List Value → α → Prop} {l : List α} {g off n c : Nat} {row : Option Nat} (h : SlR w B size R (.slice (some ⟨g, off, none⟩) n c) l) (hg : ∀ k, k < w.heap.size → some k ≠ row → w'.heap[k]? = w.heap[k]?) (hr : some g ≠ row) (hB : B ≤ w.heap.size) : SlR w' B size R (.slice (some ⟨g, off, none⟩) n c) l := by
  obtain ⟨a, c', he, h1, h2, h3⟩ := h
  refine ⟨a, c', he, h1, h2, fun hl => ?_⟩
  obtain ⟨b, o, ha, hb, hc⟩ := h3 hl
  subst ha
  injection he with e1 e2 e3
  have hgb : g = b := by injection e1 with e1; injection e1
  subst hgb
  refine ⟨_, o, rfl, hb, fun i y hy => ?_⟩
  obtain ⟨x, hx1, hx2, hx3⟩ := hc i y hy
  exact ⟨x, hx1, hx2, fun j u hu => (World.cell?_of_block (hg g (Nat.lt_of_lt_of_le hb hB) hr)).trans (hx3 j u hu)⟩
theorem order_both {ls : List Language} {v : Value} (w0 : World) (hs : LsR w0 w0.heap.size v ls) : ∃ (x0 x1 x2 x3 : Int) (r : List Int), (∀ W, Below w0.heap.size w0 W → Calls Tryz.prog 10 #[v] W fun e w' => (∃ a c, e = .returned (.tuple #[.slice a r.length c, .agg #[.int .i64 x0, .int .i64 x1, .int .i64 x2, .int .i64 x3]]) ∧ SlR w' w'.heap.size 1 IsInt (.slice a r.length c) r) ∧ Below W.heap.size W w') ∧
    ((∃ f, faultN ls = some f ∧ r = [] ∧ x0 = (f.list : Int) ∧ 0 < x3) ∨ (faultN ls = none ∧ r = (rowN (webN ls)).map (fun (n : Nat) => (n : Int)) ∧ r.length = ls.length ∧ x3 = 0)) := by
  cases hf : faultN ls with
  | some f =>
    have hfe := fault_err hf
    refine ⟨_, _, _, _, [], fun W hW => (order_fault hf W w0 hs hW).mono fun e w' h => ⟨⟨none, 0, h.1, SlR.nil_ _ (by unfold maxLen; omega) _⟩, h.2⟩, .inl ⟨f, rfl, rfl, rfl, by omega⟩⟩
  | none =>
    have hr := (row_facts hf).2.1
    refine ⟨0, 0, 0, 0, (rowN (webN ls)).map (fun (n : Nat) => (n : Int)), fun W hW => (order_none hf W w0 hs hW).mono fun e w' h => ⟨?_, h.2⟩, .inr ⟨rfl, rfl, by rw [List.length_map, hr], rfl⟩⟩
    obtain ⟨a, c, h1, h2⟩ := h.1
    exact ⟨a, c, by rw [List.length_map, hr]; exact h1, by rw [List.length_map, hr]; exact h2⟩
set_option maxRecDepth 100000 in
set_option maxHeartbeats 8000000 in
theorem lawM_walk {ls : List Language} {more : Language} {x : List Value} {v : Value} (w : World) (hs : LsR w w.heap.size v ls) (hup : ls.length ≤ 1048576) (hm : Language.Is w w.heap.size x more) :
    Calls Tryz.prog 5 #[v, .agg x.toArray] w fun e w' => e = .returned (.bool true) ∧ Below w.heap.size w w' := by
  obtain ⟨jI, hi, hz, hsz, hby⟩ := info_parts infoZ_Language
  have I := Lib.hid (And.intro hi (And.intro hz (And.intro hsz hby)))
  clear hi hz hsz hby
  have HA := Lib.hid (fun W => z_awake W)
  obtain ⟨a, c, rfl⟩ : ∃ a c, v = .slice a ls.length c := by obtain ⟨a, c, h, _⟩ := hs.form; exact ⟨a, c, h⟩
  have hcap := hs.caps
  have hn63 : ls.length ≤ 9223372036854775807 := by unfold maxLen at hcap; omega
  have Hs := Lib.hid hs
  have Hm := Lib.hid hm
  have Hcap := Lib.hid hcap
  have Hup := Lib.hid hup
  obtain ⟨e0, e1, e2, en2, ec2, e3, en3, ec3, e4, en4, ec4, e5, en5, ec5, e6, en6, ec6, e7, en7, ec7, rfl⟩ := Language.Is.shape _ _ hm
  have MB : Hid (Blk (w.alloc (.cells #[.string e0, .int .i64 e1, .slice e2 en2 ec2, .slice e3 en3 ec3, .slice e4 en4 ec4, .slice e5 en5 ec5, .slice e6 en6 ec6, .slice e7 en7 ec7] 39)) w.heap.size 39 #[.string e0, .int .i64 e1, .slice e2 en2 ec2, .slice e3 en3 ec3, .slice e4 en4 ec4, .slice e5 en5 ec5, .slice e6 en6 ec6, .slice e7 en7 ec7]) := Lib.hid (Blk.new w _ _)
  clear hs hm hcap hup
  go_enter Tryz.func5, Tryz.ntmps5
  try dsimp only [List.append]
  go_wp2_with (go_at_call 8; refine (HA.out _).mono ?_; rintro e w1 ⟨rfl, hb⟩; have L1 := Lib.hid hb; clear hb)
  have LW : Hid (Below w.heap.size w w1) := Lib.hid (((Below.refl _ _).alloc (Nat.le_refl _) _).trans (L1.out.mono (by simp)))
  have B1 : Hid (Blk w1 w.heap.size 39 #[.string e0, .int .i64 e1, .slice e2 en2 ec2, .slice e3 en3 ec3, .slice e4 en4 ec4, .slice e5 en5 ec5, .slice e6 en6 ec6, .slice e7 en7 ec7]) := Lib.hid (MB.out.below L1.out (by simp))
  have m0 : w1.cell? ⟨w.heap.size, 0, none⟩ = some (.string e0) := B1.out.cell (i := 0) rfl
  have m1 : w1.cell? ⟨w.heap.size, 1, none⟩ = some (.int .i64 e1) := B1.out.cell (i := 1) rfl
  have m2 : w1.cell? ⟨w.heap.size, 2, none⟩ = some (.slice e2 en2 ec2) := B1.out.cell (i := 2) rfl
  have m3 : w1.cell? ⟨w.heap.size, 3, none⟩ = some (.slice e3 en3 ec3) := B1.out.cell (i := 3) rfl
  have m4 : w1.cell? ⟨w.heap.size, 4, none⟩ = some (.slice e4 en4 ec4) := B1.out.cell (i := 4) rfl
  have m5 : w1.cell? ⟨w.heap.size, 5, none⟩ = some (.slice e5 en5 ec5) := B1.out.cell (i := 5) rfl
  have m6 : w1.cell? ⟨w.heap.size, 6, none⟩ = some (.slice e6 en6 ec6) := B1.out.cell (i := 6) rfl
  have m7 : w1.cell? ⟨w.heap.size, 7, none⟩ = some (.slice e7 en7 ec7) := B1.out.cell (i := 7) rfl
  obtain ⟨n, hn⟩ : ∃ n, ls.length = n := ⟨_, rfl⟩
  rw [hn] at Hs Hcap Hup hn63 ⊢
  have Hn := Lib.hid hn
  clear hn
  have tok1 : True := trivial
  have tok2 : True := trivial
  go_cut [5] from 13 to 18 (fun ov wc => ∃ (xa : Option Addr) (xc : Nat), ov = .slice xa (n + 1) xc ∧ Hid (SlR wc wc.heap.size 8 (Language.Is w w.heap.size) (.slice xa (n + 1) xc) (ls ++ [more])) ∧ Hid (Below w.heap.size w wc))
  case first =>
    have lw1 : w.heap.size < w1.heap.size := B1.out.lt
    go_region_held3 (fun W => W.cell? ⟨w.heap.size, 0, none⟩ = some (.string e0) ∧ W.cell? ⟨w.heap.size, 1, none⟩ = some (.int .i64 e1) ∧ W.cell? ⟨w.heap.size, 2, none⟩ = some (.slice e2 en2 ec2) ∧ W.cell? ⟨w.heap.size, 3, none⟩ = some (.slice e3 en3 ec3) ∧ W.cell? ⟨w.heap.size, 4, none⟩ = some (.slice e4 en4 ec4) ∧ W.cell? ⟨w.heap.size, 5, none⟩ = some (.slice e5 en5 ec5) ∧ W.cell? ⟨w.heap.size, 6, none⟩ = some (.slice e6 en6 ec6) ∧ W.cell? ⟨w.heap.size, 7, none⟩ = some (.slice e7 en7 ec7))
      (first
        | go_keep
        | (have _k := KQ; exact KQ)
        | (have _k := KP; exact KP)
        | (have _k := KP; exact ⟨(World.cell?_alloc_lt _ _ _ (Nat.lt_of_lt_of_le lw1 B9.out.size)).trans (KP.1), (World.cell?_alloc_lt _ _ _ (Nat.lt_of_lt_of_le lw1 B9.out.size)).trans (KP.2.1), (World.cell?_alloc_lt _ _ _ (Nat.lt_of_lt_of_le lw1 B9.out.size)).trans (KP.2.2.1), (World.cell?_alloc_lt _ _ _ (Nat.lt_of_lt_of_le lw1 B9.out.size)).trans (KP.2.2.2.1), (World.cell?_alloc_lt _ _ _ (Nat.lt_of_lt_of_le lw1 B9.out.size)).trans (KP.2.2.2.2.1), (World.cell?_alloc_lt _ _ _ (Nat.lt_of_lt_of_le lw1 B9.out.size)).trans (KP.2.2.2.2.2.1), (World.cell?_alloc_lt _ _ _ (Nat.lt_of_lt_of_le lw1 B9.out.size)).trans (KP.2.2.2.2.2.2.1), (World.cell?_alloc_lt _ _ _ (Nat.lt_of_lt_of_le lw1 B9.out.size)).trans (KP.2.2.2.2.2.2.2)⟩)
        | fail)
      (first
        | (have _t := tok1
           refine step_append_list rfl (.tmp 13) (.tmp 14) _ rfl w1.heap.size w.heap.size 39 jI _ 8 168 Tryz.underlying22 I.out.1 I.out.2.1 I.out.2.2.1 I.out.2.2.2 rfl (by omega) (R := Language.Is w w.heap.size) (l := []) (m := ls) (.slice (some ⟨w1.heap.size, 0, none⟩) 0 0) ?_ (by exact (Own1.empty (w := w1) rfl (Nat.le_refl _)).drew) a n c ?_ (by exact Hs.out.below (LW.out.alloc LW.out.size _).drew) n (by simp) Language.Is.one (by simp; have := Hcap.out; omega) (by simp; have := Hup.out; omega) (by simp) ?_
           rfl
           rfl
           intro pa pc w9 hown hgr
           have hne : ∀ g, (Value.slice (some ⟨w1.heap.size, 0, none⟩) 0 0).ownBlock = some g → w1.heap.size ≤ g := fun g hg => Nat.le_of_eq (Option.some.inj hg)
           have B9 : Hid (Below w1.heap.size w1 w9) := Lib.hid ((((Below.refl w1.heap.size w1).alloc (Nat.le_refl _) (.cells #[] 39)).drew).grown hgr (by show w1.heap.size ≤ (w1.alloc _).heap.size; simp) hne)
           have KP : w9.cell? ⟨w.heap.size, 0, none⟩ = some (.string e0) ∧ w9.cell? ⟨w.heap.size, 1, none⟩ = some (.int .i64 e1) ∧ w9.cell? ⟨w.heap.size, 2, none⟩ = some (.slice e2 en2 ec2) ∧ w9.cell? ⟨w.heap.size, 3, none⟩ = some (.slice e3 en3 ec3) ∧ w9.cell? ⟨w.heap.size, 4, none⟩ = some (.slice e4 en4 ec4) ∧ w9.cell? ⟨w.heap.size, 5, none⟩ = some (.slice e5 en5 ec5) ∧ w9.cell? ⟨w.heap.size, 6, none⟩ = some (.slice e6 en6 ec6) ∧ w9.cell? ⟨w.heap.size, 7, none⟩ = some (.slice e7 en7 ec7) := ⟨(B9.out.cell (p := ⟨w.heap.size, 0, none⟩) lw1).trans m0, (B9.out.cell (p := ⟨w.heap.size, 1, none⟩) lw1).trans m1, (B9.out.cell (p := ⟨w.heap.size, 2, none⟩) lw1).trans m2, (B9.out.cell (p := ⟨w.heap.size, 3, none⟩) lw1).trans m3, (B9.out.cell (p := ⟨w.heap.size, 4, none⟩) lw1).trans m4, (B9.out.cell (p := ⟨w.heap.size, 5, none⟩) lw1).trans m5, (B9.out.cell (p := ⟨w.heap.size, 6, none⟩) lw1).trans m6, (B9.out.cell (p := ⟨w.heap.size, 7, none⟩) lw1).trans m7⟩
           have O9 : Hid (Own1 w9 w1.heap.size 39 8 (Language.Is w w.heap.size) (.slice pa n pc) ls) := Lib.hid (by simpa using hown)
           clear tok1 _t hown hgr hne)
        | (have _t := tok1
           refine step_append_list rfl (.tmp 13) (.tmp 14) _ rfl w1.heap.size w.heap.size 39 jI _ 8 168 Tryz.underlying22 I.out.1 I.out.2.1 I.out.2.2.1 I.out.2.2.2 rfl (by omega) (R := Language.Is w w.heap.size) (l := []) (m := ls) (.slice (some ⟨w1.heap.size, 0, none⟩) 0 0) ?_ (by exact ((Own1.empty (w := w1) rfl (Nat.le_refl _)).alloc _).drew) a n c ?_ (by exact Hs.out.below (((LW.out.alloc LW.out.size _).alloc (Nat.le_trans LW.out.size (by simp)) _).drew)) n (by simp) Language.Is.one (by simp; have := Hcap.out; omega) (by simp; have := Hup.out; omega) (by simp; omega) ?_
           go_must (
             rfl
             rfl
             intro pa pc w9 hown hgr
             have hne : ∀ g, (Value.slice (some ⟨w1.heap.size, 0, none⟩) 0 0).ownBlock = some g → w1.heap.size ≤ g := fun g hg => Nat.le_of_eq (Option.some.inj hg)
             have B9 : Hid (Below w1.heap.size w1 w9) := Lib.hid ((((Below.refl w1.heap.size w1).alloc (Nat.le_refl _) (.cells #[] 39)).alloc (by simp) (.cells #[.string e0, .int .i64 e1, .slice e2 en2 ec2, .slice e3 en3 ec3, .slice e4 en4 ec4, .slice e5 en5 ec5, .slice e6 en6 ec6, .slice e7 en7 ec7] 39)).drew.grown hgr (by simp; omega) hne)
             have KP : w9.cell? ⟨w.heap.size, 0, none⟩ = some (.string e0) ∧ w9.cell? ⟨w.heap.size, 1, none⟩ = some (.int .i64 e1) ∧ w9.cell? ⟨w.heap.size, 2, none⟩ = some (.slice e2 en2 ec2) ∧ w9.cell? ⟨w.heap.size, 3, none⟩ = some (.slice e3 en3 ec3) ∧ w9.cell? ⟨w.heap.size, 4, none⟩ = some (.slice e4 en4 ec4) ∧ w9.cell? ⟨w.heap.size, 5, none⟩ = some (.slice e5 en5 ec5) ∧ w9.cell? ⟨w.heap.size, 6, none⟩ = some (.slice e6 en6 ec6) ∧ w9.cell? ⟨w.heap.size, 7, none⟩ = some (.slice e7 en7 ec7) := ⟨(B9.out.cell (p := ⟨w.heap.size, 0, none⟩) lw1).trans m0, (B9.out.cell (p := ⟨w.heap.size, 1, none⟩) lw1).trans m1, (B9.out.cell (p := ⟨w.heap.size, 2, none⟩) lw1).trans m2, (B9.out.cell (p := ⟨w.heap.size, 3, none⟩) lw1).trans m3, (B9.out.cell (p := ⟨w.heap.size, 4, none⟩) lw1).trans m4, (B9.out.cell (p := ⟨w.heap.size, 5, none⟩) lw1).trans m5, (B9.out.cell (p := ⟨w.heap.size, 6, none⟩) lw1).trans m6, (B9.out.cell (p := ⟨w.heap.size, 7, none⟩) lw1).trans m7⟩
             have O9 : Hid (Own1 w9 w1.heap.size 39 8 (Language.Is w w.heap.size) (.slice pa n pc) ls) := Lib.hid (by simpa using hown)
             have S9 : Hid (SlR w9 ((w1.alloc (.cells #[] 39)).heap.size + 1) 8 (Language.Is w w.heap.size) (.slice (some ⟨w1.heap.size + 1, 0, none⟩) 1 1) [more]) := Lib.hid ((SlR.new1 (w := w1.alloc (.cells #[] 39)) (by simp) rfl Hm.out).grown_ hgr.block (by show some _ ≠ some _; simp) (by simp))
             have H9 : (w1.alloc (.cells #[] 39)).heap.size + 1 ≤ w9.heap.size := by have := hgr.size; simp at this ⊢; omega
             clear tok1 _t hown hgr hne))
        | (have _t := tok1
           go_must (
             refine step_append_list rfl (.tmp 13) (.tmp 14) _ rfl w1.heap.size w.heap.size 39 jI _ 8 168 Tryz.underlying22 I.out.1 I.out.2.1 I.out.2.2.1 I.out.2.2.2 rfl (by omega) (R := Language.Is w w.heap.size) (l := []) (m := ls) (.slice (some ⟨w1.heap.size + 1, 0, none⟩) 0 0) ?_ (by exact (Own1.empty (w := w1.alloc (.cells #[.string e0, .int .i64 e1, .slice e2 en2 ec2, .slice e3 en3 ec3, .slice e4 en4 ec4, .slice e5 en5 ec5, .slice e6 en6 ec6, .slice e7 en7 ec7] 39)) (by simp) (by simp)).drew) a n c ?_ (by exact Hs.out.below (((LW.out.alloc LW.out.size _).alloc (Nat.le_trans LW.out.size (by simp)) _).drew)) n (by simp) Language.Is.one (by simp; have := Hcap.out; omega) (by simp; have := Hup.out; omega) (by simp; omega) ?_
             rfl
             rfl
             intro pa pc w9 hown hgr
             have hne : ∀ g, (Value.slice (some ⟨w1.heap.size + 1, 0, none⟩) 0 0).ownBlock = some g → w1.heap.size ≤ g := fun g hg => Nat.le_trans (Nat.le_succ _) (Nat.le_of_eq (Option.some.inj hg))
             have B9 : Hid (Below w1.heap.size w1 w9) := Lib.hid ((((Below.refl w1.heap.size w1).alloc (Nat.le_refl _) (.cells #[.string e0, .int .i64 e1, .slice e2 en2 ec2, .slice e3 en3 ec3, .slice e4 en4 ec4, .slice e5 en5 ec5, .slice e6 en6 ec6, .slice e7 en7 ec7] 39)).alloc (by simp) (.cells #[] 39)).drew.grown hgr (by simp; omega) hne)
             have KP : w9.cell? ⟨w.heap.size, 0, none⟩ = some (.string e0) ∧ w9.cell? ⟨w.heap.size, 1, none⟩ = some (.int .i64 e1) ∧ w9.cell? ⟨w.heap.size, 2, none⟩ = some (.slice e2 en2 ec2) ∧ w9.cell? ⟨w.heap.size, 3, none⟩ = some (.slice e3 en3 ec3) ∧ w9.cell? ⟨w.heap.size, 4, none⟩ = some (.slice e4 en4 ec4) ∧ w9.cell? ⟨w.heap.size, 5, none⟩ = some (.slice e5 en5 ec5) ∧ w9.cell? ⟨w.heap.size, 6, none⟩ = some (.slice e6 en6 ec6) ∧ w9.cell? ⟨w.heap.size, 7, none⟩ = some (.slice e7 en7 ec7) := ⟨(B9.out.cell (p := ⟨w.heap.size, 0, none⟩) lw1).trans m0, (B9.out.cell (p := ⟨w.heap.size, 1, none⟩) lw1).trans m1, (B9.out.cell (p := ⟨w.heap.size, 2, none⟩) lw1).trans m2, (B9.out.cell (p := ⟨w.heap.size, 3, none⟩) lw1).trans m3, (B9.out.cell (p := ⟨w.heap.size, 4, none⟩) lw1).trans m4, (B9.out.cell (p := ⟨w.heap.size, 5, none⟩) lw1).trans m5, (B9.out.cell (p := ⟨w.heap.size, 6, none⟩) lw1).trans m6, (B9.out.cell (p := ⟨w.heap.size, 7, none⟩) lw1).trans m7⟩
             have O9 : Hid (Own1 w9 w1.heap.size 39 8 (Language.Is w w.heap.size) (.slice pa n pc) ls) := Lib.hid (by simpa using hown)
             have S9 : Hid (SlR w9 (w1.heap.size + 1) 8 (Language.Is w w.heap.size) (.slice (some ⟨w1.heap.size, 0, none⟩) 1 1) [more]) := Lib.hid ((SlR.new1 (w := w1) rfl rfl Hm.out).grown_ (fun k h1 h2 => (hgr.block k (by simp at h1 ⊢; omega) h2).trans ((MapKept.heap_alloc _ _).2 k h1)) (by show some _ ≠ some _; simp) (by simp))
             have H9 : w1.heap.size + 1 ≤ w9.heap.size := by have := hgr.size; simp at this ⊢; omega
             clear tok1 _t hown hgr hne))
        | (have _t := tok2
           have _b := S9
           go_must (
             refine step_append_list rfl (.tmp 15) (.tmp 17) _ rfl w1.heap.size _ 39 jI _ 8 168 Tryz.underlying22 I.out.1 I.out.2.1 I.out.2.2.1 I.out.2.2.2 rfl (by omega) (R := Language.Is w w.heap.size) (l := ls) (m := [more]) (.slice pa n pc) ?_ (by exact O9.out) _ 1 1 ?_ S9.out (n + 1) (by rw [Hn.out]) Language.Is.one (by rw [Hn.out]; have := Hup.out; unfold maxLen; omega) (by rw [Hn.out]; have := Hup.out; omega) (by have := B9.out.size; omega) ?_
             rfl
             rfl
             intro xa xc wb hown hgr
             have hne : ∀ g, (Value.slice pa n pc).ownBlock = some g → w1.heap.size ≤ g := fun g hg => (O9.out.block g hg).1
             have Bb : Hid (Below w1.heap.size w1 wb) := Lib.hid (B9.out.grown hgr B9.out.size hne)
             have KP : wb.cell? ⟨w.heap.size, 0, none⟩ = some (.string e0) ∧ wb.cell? ⟨w.heap.size, 1, none⟩ = some (.int .i64 e1) ∧ wb.cell? ⟨w.heap.size, 2, none⟩ = some (.slice e2 en2 ec2) ∧ wb.cell? ⟨w.heap.size, 3, none⟩ = some (.slice e3 en3 ec3) ∧ wb.cell? ⟨w.heap.size, 4, none⟩ = some (.slice e4 en4 ec4) ∧ wb.cell? ⟨w.heap.size, 5, none⟩ = some (.slice e5 en5 ec5) ∧ wb.cell? ⟨w.heap.size, 6, none⟩ = some (.slice e6 en6 ec6) ∧ wb.cell? ⟨w.heap.size, 7, none⟩ = some (.slice e7 en7 ec7) := ⟨(Bb.out.cell (p := ⟨w.heap.size, 0, none⟩) lw1).trans m0, (Bb.out.cell (p := ⟨w.heap.size, 1, none⟩) lw1).trans m1, (Bb.out.cell (p := ⟨w.heap.size, 2, none⟩) lw1).trans m2, (Bb.out.cell (p := ⟨w.heap.size, 3, none⟩) lw1).trans m3, (Bb.out.cell (p := ⟨w.heap.size, 4, none⟩) lw1).trans m4, (Bb.out.cell (p := ⟨w.heap.size, 5, none⟩) lw1).trans m5, (Bb.out.cell (p := ⟨w.heap.size, 6, none⟩) lw1).trans m6, (Bb.out.cell (p := ⟨w.heap.size, 7, none⟩) lw1).trans m7⟩
             have Ob : Hid (Own1 wb w1.heap.size 39 8 (Language.Is w w.heap.size) (.slice xa (n + 1) xc) (ls ++ [more])) := Lib.hid (by simpa using hown)
             clear tok2 _t hown hgr hne))
        | (have _t := tok2
           have _b := B9
           go_must (
             refine step_append_list rfl (.tmp 15) (.tmp 17) _ rfl w1.heap.size (w9.heap.size + 1) 39 jI _ 8 168 Tryz.underlying22 I.out.1 I.out.2.1 I.out.2.2.1 I.out.2.2.2 rfl (by omega) (R := Language.Is w w.heap.size) (l := ls) (m := [more]) (.slice pa n pc) ?_ (by exact O9.out.alloc _) (some ⟨w9.heap.size, 0, none⟩) 1 1 ?_ (by exact SlR.new1 rfl rfl Hm.out) (n + 1) (by rw [Hn.out]) Language.Is.one (by rw [Hn.out]; have := Hup.out; unfold maxLen; omega) (by rw [Hn.out]; have := Hup.out; omega) (by simp; have := B9.out.size; omega) ?_
             rfl
             rfl
             intro xa xc wb hown hgr
             have hne : ∀ g, (Value.slice pa n pc).ownBlock = some g → w1.heap.size ≤ g := fun g hg => (O9.out.block g hg).1
             have Bb : Hid (Below w1.heap.size w1 wb) := Lib.hid ((B9.out.alloc B9.out.size _).grown hgr (by show w1.heap.size ≤ (w9.alloc _).heap.size; have := B9.out.size; simp; omega) hne)
             have KP : wb.cell? ⟨w.heap.size, 0, none⟩ = some (.string e0) ∧ wb.cell? ⟨w.heap.size, 1, none⟩ = some (.int .i64 e1) ∧ wb.cell? ⟨w.heap.size, 2, none⟩ = some (.slice e2 en2 ec2) ∧ wb.cell? ⟨w.heap.size, 3, none⟩ = some (.slice e3 en3 ec3) ∧ wb.cell? ⟨w.heap.size, 4, none⟩ = some (.slice e4 en4 ec4) ∧ wb.cell? ⟨w.heap.size, 5, none⟩ = some (.slice e5 en5 ec5) ∧ wb.cell? ⟨w.heap.size, 6, none⟩ = some (.slice e6 en6 ec6) ∧ wb.cell? ⟨w.heap.size, 7, none⟩ = some (.slice e7 en7 ec7) := ⟨(Bb.out.cell (p := ⟨w.heap.size, 0, none⟩) lw1).trans m0, (Bb.out.cell (p := ⟨w.heap.size, 1, none⟩) lw1).trans m1, (Bb.out.cell (p := ⟨w.heap.size, 2, none⟩) lw1).trans m2, (Bb.out.cell (p := ⟨w.heap.size, 3, none⟩) lw1).trans m3, (Bb.out.cell (p := ⟨w.heap.size, 4, none⟩) lw1).trans m4, (Bb.out.cell (p := ⟨w.heap.size, 5, none⟩) lw1).trans m5, (Bb.out.cell (p := ⟨w.heap.size, 6, none⟩) lw1).trans m6, (Bb.out.cell (p := ⟨w.heap.size, 7, none⟩) lw1).trans m7⟩
             have Ob : Hid (Own1 wb w1.heap.size 39 8 (Language.Is w w.heap.size) (.slice xa (n + 1) xc) (ls ++ [more])) := Lib.hid (by simpa using hown)
             clear tok2 _t hown hgr hne))
        | (have _t := tok1
           go_must (fail "ORDER"))
        | fail)
    all_goals
      go_wp2_with fail
      go_meet
      exact ⟨xa, xc, rfl, Lib.hid (Ob.out.read (by omega)), Lib.hid (LW.out.trans (Bb.out.mono LW.out.size))⟩
  case rest =>
    obtain ⟨xa, xc, rfl, HA2, LC⟩ := hcut
    have hall : LsR wc wc.heap.size (.slice xa (n + 1) xc) (ls ++ [more]) := HA2.out.imp (fun _ _ r => r.keep (fun _ hp => LC.out.cell hp) LC.out.size)
    have HG := Lib.hid (great_any wc wc hall (Below.refl _ _))
    obtain ⟨x0, x1, x2, x3, r1, h1, k1⟩ := order_both w Hs.out
    obtain ⟨y0, y1, y2, y3, r2, h2, k2⟩ := order_both wc hall
    have HO1 := Lib.hid h1
    have HO2 := Lib.hid h2
    have K1 := Lib.hid k1
    have K2 := Lib.hid k2
    have hl2 : (ls ++ [more]).length = n + 1 := by rw [List.length_append, Hn.out]; rfl
    clear h1 h2 k1 k2 hall HA2 HA B1 MB m0 m1 m2 m3 m4 m5 m6 m7 L1 LW Hm I
    have tokA : True := trivial
    rcases K1.out with ⟨f1, hf1, rfl, rfl, hx⟩ | ⟨hn1, hr1, hlr1, rfl⟩
    · have ne1 : ¬ x3 = 0 := by omega
      have ne2 : (x3 != 0) = true := by simpa using ne1
      clear K1 hx hf1
      rcases K2.out with ⟨f2, hf2, rfl, rfl, hy⟩ | ⟨hn2, hr2, hlr2, rfl⟩
      · have ne3 : ¬ y3 = 0 := by omega
        have ne4 : (y3 != 0) = true := by simpa using ne3
        clear K2 hy hf2
        go_wp2_with (first
        | (go_at_call 9; refine HG.out.mono ?_; rintro e w2 ⟨⟨b, rfl⟩, hb⟩; have L2 := Lib.hid hb; clear hb; cases b)
        | (go_at_call 10; have _t := tokA; refine (HO1.out _ (LC.out.trans (L2.out.mono LC.out.size))).mono ?_; rintro e w3 ⟨⟨a3, c3, rfl, hS⟩, hb⟩; have L3 : Hid (Below wc.heap.size wc w3) := Lib.hid (L2.out.trans (hb.mono L2.out.size)); have S3 := Lib.hid hS; clear hb hS tokA _t)
        | (go_at_call 10; refine (HO2.out _ (L3.out.alloc L3.out.size _)).mono ?_; rintro e w4 ⟨⟨a4, c4, rfl, hS⟩, hb⟩; have S4 := Lib.hid hS; have hb2 : Below (w3.heap.size + 1) (w3.alloc (.cells #[.int .i64 (f1.list : Int), .int .i64 x1, .int .i64 x2, .int .i64 x3] 28)) w4 := hb.mono (by simp); have B6 : Blk w4 w3.heap.size 28 #[.int .i64 (f1.list : Int), .int .i64 x1, .int .i64 x2, .int .i64 x3] := (Blk.new w3 _ _).below hb2 (by omega); have f0 : w4.cell? ⟨w3.heap.size, 0, none⟩ = some (.int .i64 (f1.list : Int)) := B6.cell rfl; have f3 : w4.cell? ⟨w3.heap.size, 3, none⟩ = some (.int .i64 x3) := B6.cell rfl; have l6 := B6.lt; have B34 : Hid (Below w3.heap.size w3 w4) := Lib.hid (((Below.refl _ _).alloc (Nat.le_refl _) _).trans (hb2.mono (by omega))); clear hb2 B6; clear hb hS))
        all_goals go_ret
        all_goals refine ⟨?_, by first | exact LC.out.trans (L2.out.mono LC.out.size) | exact LC.out.trans (((L3.out.trans (B34.out.mono L3.out.size)).alloc (Nat.le_trans L3.out.size B34.out.size) _).mono LC.out.size)⟩
        all_goals rfl
      · rw [hl2] at hlr2
        rw [hlr2] at HO2
        clear K2 hn2 hr2
        go_wp2_with (first
        | (go_at_call 9; refine HG.out.mono ?_; rintro e w2 ⟨⟨b, rfl⟩, hb⟩; have L2 := Lib.hid hb; clear hb; cases b)
        | (go_at_call 10; have _t := tokA; refine (HO1.out _ (LC.out.trans (L2.out.mono LC.out.size))).mono ?_; rintro e w3 ⟨⟨a3, c3, rfl, hS⟩, hb⟩; have L3 : Hid (Below wc.heap.size wc w3) := Lib.hid (L2.out.trans (hb.mono L2.out.size)); have S3 := Lib.hid hS; clear hb hS tokA _t)
        | (go_at_call 10; refine (HO2.out _ (L3.out.alloc L3.out.size _)).mono ?_; rintro e w4 ⟨⟨a4, c4, rfl, hS⟩, hb⟩; have S4 := Lib.hid hS; have hb2 : Below (w3.heap.size + 1) (w3.alloc (.cells #[.int .i64 (f1.list : Int), .int .i64 x1, .int .i64 x2, .int .i64 x3] 28)) w4 := hb.mono (by simp); have B6 : Blk w4 w3.heap.size 28 #[.int .i64 (f1.list : Int), .int .i64 x1, .int .i64 x2, .int .i64 x3] := (Blk.new w3 _ _).below hb2 (by omega); have f0 : w4.cell? ⟨w3.heap.size, 0, none⟩ = some (.int .i64 (f1.list : Int)) := B6.cell rfl; have f3 : w4.cell? ⟨w3.heap.size, 3, none⟩ = some (.int .i64 x3) := B6.cell rfl; have l6 := B6.lt; have B34 : Hid (Below w3.heap.size w3 w4) := Lib.hid (((Below.refl _ _).alloc (Nat.le_refl _) _).trans (hb2.mono (by omega))); clear hb2 B6; clear hb hS))
        all_goals go_ret
        all_goals refine ⟨?_, by first | exact LC.out.trans (L2.out.mono LC.out.size) | exact LC.out.trans (((L3.out.trans (B34.out.mono L3.out.size)).alloc (Nat.le_trans L3.out.size B34.out.size) _).mono LC.out.size)⟩
        · simp
        · rfl
    · rw [Hn.out] at hlr1
      rw [hlr1] at HO1
      rcases K2.out with ⟨f2, hf2, rfl, rfl, hy⟩ | ⟨hn2, hr2, hlr2, rfl⟩
      · have ne3 : ¬ y3 = 0 := by omega
        have ne4 : (y3 != 0) = true := by simpa using ne3
        have hm := more_fault hn1 hf2
        rw [Hn.out] at hm
        have Hq := Lib.hid hm
        clear K1 K2 hy hf2 hn1 hm hr1 hlr1
        go_wp2_with (first
        | (go_at_call 9; refine HG.out.mono ?_; rintro e w2 ⟨⟨b, rfl⟩, hb⟩; have L2 := Lib.hid hb; clear hb; cases b)
        | (go_at_call 10; have _t := tokA; refine (HO1.out _ (LC.out.trans (L2.out.mono LC.out.size))).mono ?_; rintro e w3 ⟨⟨a3, c3, rfl, hS⟩, hb⟩; have L3 : Hid (Below wc.heap.size wc w3) := Lib.hid (L2.out.trans (hb.mono L2.out.size)); have S3 := Lib.hid hS; clear hb hS tokA _t)
        | (go_at_call 10; refine (HO2.out _ (L3.out.alloc L3.out.size _)).mono ?_; rintro e w4 ⟨⟨a4, c4, rfl, hS⟩, hb⟩; have S4 := Lib.hid hS; have hb2 : Below (w3.heap.size + 1) (w3.alloc (.cells #[.int .i64 x0, .int .i64 x1, .int .i64 x2, .int .i64 0] 28)) w4 := hb.mono (by simp); have B6 : Blk w4 w3.heap.size 28 #[.int .i64 x0, .int .i64 x1, .int .i64 x2, .int .i64 0] := (Blk.new w3 _ _).below hb2 (by omega); have f0 : w4.cell? ⟨w3.heap.size, 0, none⟩ = some (.int .i64 x0) := B6.cell rfl; have f3 : w4.cell? ⟨w3.heap.size, 3, none⟩ = some (.int .i64 0) := B6.cell rfl; have l6 := B6.lt; have B34 : Hid (Below w3.heap.size w3 w4) := Lib.hid (((Below.refl _ _).alloc (Nat.le_refl _) _).trans (hb2.mono (by omega))); clear hb2 B6; clear hb hS))
        all_goals go_ret
        all_goals refine ⟨?_, by first | exact LC.out.trans (L2.out.mono LC.out.size) | exact LC.out.trans (((L3.out.trans (B34.out.mono L3.out.size)).alloc (Nat.le_trans L3.out.size B34.out.size) _).mono LC.out.size)⟩
        · rfl
        · refine congrArg (fun b => Ending.returned (.bool b)) ?_
          rcases Hq.out with h | h
          · simp [h]
          · have e : ((f2.list : Int) / 10) = (n : Int) := by omega
            have e2 : wrap64 (n : Int) = (n : Int) := by unfold wrap64; omega
            rw [e, e2]
            simp
        · rfl
      · rw [hl2] at hlr2
        rw [hlr2] at HO2
        have hrow := more_row hn1 hn2
        rw [Hn.out] at hrow
        have hr12 : r2 = r1 ++ [(n : Int)] := by rw [hr2, hr1, hrow, List.map_append]; rfl
        have HI : Hid (r2[n]? = some (n : Int)) := Lib.hid (by rw [hr12, List.getElem?_append_right (by omega), hlr1, Nat.sub_self]; rfl)
        have HR := Lib.hid hr12
        have HL := Lib.hid hlr1
        have hw1 : wrap64 ((n : Int) + 1) = (n : Int) + 1 := by have := Hup.out; unfold wrap64; omega
        clear K1 K2 hn1 hn2 hr1 hr2 hlr1 hlr2 hrow hr12
        go_wp2_with (first
        | (go_at_call 9; refine HG.out.mono ?_; rintro e w2 ⟨⟨b, rfl⟩, hb⟩; have L2 := Lib.hid hb; clear hb; cases b)
        | (go_at_call 10; have _t := tokA; refine (HO1.out _ (LC.out.trans (L2.out.mono LC.out.size))).mono ?_; rintro e w3 ⟨⟨a3, c3, rfl, hS⟩, hb⟩; have L3 : Hid (Below wc.heap.size wc w3) := Lib.hid (L2.out.trans (hb.mono L2.out.size)); have S3 := Lib.hid hS; clear hb hS tokA _t)
        | (go_at_call 10; refine (HO2.out _ (L3.out.alloc L3.out.size _)).mono ?_; rintro e w4 ⟨⟨a4, c4, rfl, hS⟩, hb⟩; have S4 := Lib.hid hS; have hb2 : Below (w3.heap.size + 1) (w3.alloc (.cells #[.int .i64 x0, .int .i64 x1, .int .i64 x2, .int .i64 0] 28)) w4 := hb.mono (by simp); have B6 : Blk w4 w3.heap.size 28 #[.int .i64 x0, .int .i64 x1, .int .i64 x2, .int .i64 0] := (Blk.new w3 _ _).below hb2 (by omega); have f0 : w4.cell? ⟨w3.heap.size, 0, none⟩ = some (.int .i64 x0) := B6.cell rfl; have f3 : w4.cell? ⟨w3.heap.size, 3, none⟩ = some (.int .i64 0) := B6.cell rfl; have l6 := B6.lt; have B34 : Hid (Below w3.heap.size w3 w4) := Lib.hid (((Below.refl _ _).alloc (Nat.le_refl _) _).trans (hb2.mono (by omega))); clear hb2 B6; obtain ⟨b4, o4, x4, rfl, hb4, hx4l, ⟨rfl, _⟩, hx4⟩ := hS.at_ HI.out; have g4 := hx4 0 _ rfl; simp only [Nat.add_zero, Nat.mul_one] at g4; clear hb hS hx4 hx4l))
        rotate_left
        · go_ret
          exact ⟨rfl, LC.out.trans (L2.out.mono LC.out.size)⟩
        rw [hw1]
        clear hw1
        generalize hW5 : World.alloc w4 _ = W5
        have L5 : Hid (Below wc.heap.size wc W5) := Lib.hid (by rw [← hW5]; exact (L3.out.trans (B34.out.mono L3.out.size)).alloc (Nat.le_trans L3.out.size B34.out.size) _)
        have B45 : Below w4.heap.size w4 W5 := by rw [← hW5]; exact (Below.refl _ _).alloc (Nat.le_refl _) _
        have T4 : Hid (SlR W5 W5.heap.size 1 IsInt (.slice (some ⟨b4, o4, none⟩) (n + 1) c4) r2) := Lib.hid ((S4.out.below B45).more B45.size)
        have T3 : Hid (SlR W5 W5.heap.size 1 IsInt (.slice a3 n c3) r1) := Lib.hid (((S3.out.below B34.out).more B34.out.size).below B45 |>.more B45.size)
        clear hW5 B45 S3 S4 g4 f0 f3 l6 hb4 B34
        go_loopw [4, 10] (fun r j wr => ∃ k : Nat, k ≤ n ∧ r = .bool false ∧ j = .int .i64 (k : Int) ∧ Hid (Quiet W5 wr)) (fun _ j _ => n - (intOf j).toNat)
        case atStart => exact ⟨0, Nat.zero_le _, rfl, rfl, Quiet.refl _⟩
        case round =>
          obtain ⟨k, hk, rfl, rfl, hq⟩ := hrel
          have Hq := hq
          clear hq
          by_cases hlt : k < n
          · obtain ⟨y, hy⟩ := get_some HL.out hlt
            have hy2 : r2[k]? = some y := by rw [HR.out, List.getElem?_append_left (by rw [HL.out]; exact hlt)]; exact hy
            obtain ⟨b1, o1, x5, rfl, hb1, hx1l, ⟨rfl, _⟩, hx1⟩ := (T3.out.below (Hq.out.below _)).at_ hy
            have g1 := hx1 0 _ rfl
            obtain ⟨b2, o2, x6, he6, hb2, hx2l, ⟨rfl, _⟩, hx2⟩ := (T4.out.below (Hq.out.below _)).at_ hy2
            have g2 := hx2 0 _ rfl
            injection he6 with he6
            injection he6 with e1 e2
            subst e1 e2
            simp only [Nat.add_zero, Nat.mul_one] at g1 g2
            have d1 : k < n + 1 := by omega
            clear hy hy2 hx1 hx2 hx1l hx2l hb1 hb2
            go_wp2_with fail
            go_quiet (fail)

            go_wp2_with fail
            go_roundw
            case rel => exact ⟨k + 1, by omega, rfl, by go_num, Hq.out.drewN _⟩
            case measure => simp [intOf]; omega
          · have hge : n ≤ k := by omega
            have LE : Hid (Below wc.heap.size wc wr) := Lib.hid (L5.out.trans ((Hq.out.below _).mono L5.out.size))
            clear hlt
            go_wp2_with fail
            go_ret
            exact ⟨rfl, LC.out.trans (LE.out.mono LC.out.size)⟩

open Go.ChangeShapes Go.WideShapes Go.ChangeAt

theorem bulk_pos {H : Type} (d : DataW H) : 1 ≤ Rows.uptoBulk d := by
  cases d with
  | lit l => cases l <;> simp [Rows.uptoBulk]
  | _ => simp [Rows.uptoBulk]
theorem bulk_len {H : Type} : ∀ (l : List (DataW H)), l.length ≤ Rows.uptoBulkAll l
  | [] => Nat.zero_le _
  | d :: r => by
    have h1 := bulk_pos d
    have h2 := bulk_len r
    simp only [Rows.uptoBulkAll, List.length_cons]
    omega

theorem own : ownKnob Tryz.prog.godebug = none := by kernel_rfl
theorem laidOut : laidOutB Tryz.prog = true := by kernel_rfl

set_option maxRecDepth 100000 in
theorem lifted (os : Os) (started : os.Started) (H : Type) (enc : TypeId × Value → H) (F : Stop.Interp) :
    ReturnsInHanded {} Tryz.checked os 5 .any ((Rows.OpenSpec.upto Rows.modulesMoreSpec).pre6 enc Tryz.prog Tryz.f5 Rows.modulesMoreUptoRow.domain false) (((Rows.OpenSpec.upto Rows.modulesMoreSpec).at F).post enc Tryz.prog Tryz.f5 false true false false) := by
  refine returnsInHanded_of_cond_sized (C := Tryz.checked) (s := (Rows.OpenSpec.upto Rows.modulesMoreSpec)) (k := Rows.uptoSmall) rfl own started (by kernel_rfl) Tryz.func5
    (OpenSpec.witness (enc := enc) (C := Tryz.checked) (s := (Rows.OpenSpec.upto Rows.modulesMoreSpec)) (k := Rows.uptoSmall) rfl false ⟨#[], #[.slice none 0 0, .agg #[.string ⟨#[]⟩, .int .i64 0, .slice none 0 0, .slice none 0 0, .slice none 0 0, .slice none 0 0, .slice none 0 0, .slice none 0 0]], []⟩ 8 (by kernel_rfl) (by kernel_rfl) (by kernel_rfl) (x := ([.nil, .agg [.lit (.string []), .lit (.int .i64 0), .nil, .nil, .nil, .nil, .nil, .nil]], [], [])) (by kernel_rfl) rfl (by kernel_rfl)) ?_
  intro W base args ds gs before hval0 hW hcnd hk hwt _
  have hval : ∀ (j : Nat) t v, Tryz.f5.params[j]? = some t → args[j]? = some v → Value.okWide Tryz.prog W .any base t v := hval0
  have hW' := hW
  obtain ⟨p, q, hA0, hV, rfl, hfz, hnd⟩ := hW
  have hA : DataW.TrodAll enc Tryz.prog W 0 (fun _ => true) true Tryz.f5.params.toList args.toList ds p := hA0
  rw [Tryz.params5] at hA hval hwt
  obtain ⟨v0, vs0, d0, ds0, p0, q0, hargs, rfl, rfl, h0, r0⟩ := trodAll_cons hA
  obtain ⟨v1, vs1, d1, ds1, p1, q1, rfl, rfl, rfl, h1, r1⟩ := trodAll_cons r0
  obtain ⟨rfl, rfl, rfl⟩ := trodAll_nil r1
  obtain rfl : args = #[v0, v1] := by cases args; simp_all
  obtain ⟨rfl, rfl⟩ := trodVars_none hV
  obtain ⟨sa0, sn0, sc0, rfl⟩ := okWide_slice Tryz.underlying22 (hval 0 22 v0 rfl rfl)
  obtain ⟨x1, rfl, _⟩ := okWide_struct Tryz.underlying39 (hval 1 39 v1 rfl rfl)
  have k0 := h0
  have lt0 : ∀ x ∈ p0, x.block < W.heap.size := by obtain ⟨m, hm⟩ := k0; exact DataW.trod_lt m _ _ _ hm
  have k1 := h1
  have lt1 : ∀ x ∈ p1, x.block < W.heap.size := by obtain ⟨m, hm⟩ := k1; exact DataW.trod_lt m _ _ _ hm
  have L0 : Light Tryz.prog 22 d0 := fun n hn => by simpa using List.all_eq_true.1 hwt n (DataW.weights_mem_each (j := 0) rfl rfl n hn)
  obtain ⟨l0, X0, F0⟩ : ∃ l : List Language, SlR W W.heap.size 8 (Language.Is W W.heap.size) (.slice sa0 sn0 sc0) l ∧ Fit l.length 168 := by
    obtain ⟨fuel, hf⟩ := h0
    exact open_SlR_light (Language.Is W W.heap.size) Tryz.underlying22 (size := 8) (bytes := 168) (by kernel_rfl) (by decide) (by kernel_rfl) hf L0 (fun n x y _ h hl => open_Language h hl)
  have L1 : Light Tryz.prog 39 d1 := fun n hn => by simpa using List.all_eq_true.1 hwt n (DataW.weights_mem_each (j := 1) rfl rfl n hn)
  obtain ⟨l1, X1⟩ : ∃ l, Language.Is W W.heap.size x1.toList l := by
    obtain ⟨fuel, hf⟩ := h1
    exact open_Language hf L1
  clear hA0 hval0
  have hb := of_decide_eq_true hk
  have bul0 : l0.length ≤ 1048576 := by
    obtain ⟨fuel, hf⟩ := k0
    rw [← X0.len]
    simp only [List.cons_append, List.nil_append, List.append_nil, Rows.uptoBulkAll] at hb
    rcases DataW.trod_slice Tryz.underlying22 hf with ⟨h, _⟩ | ⟨a, len, cap, elems, rest, n, _, hcs, hx, _, _, _, hlen, _⟩
    · simp [Value.cells] at h
      omega
    · have e1 := congrArg Prod.fst hx
      simp only at e1
      subst e1
      simp [Value.cells] at hcs
      obtain ⟨_, e2, _⟩ := hcs
      have h9 := bulk_len (elems.map (·.1))
      simp only [Rows.uptoBulk, List.length_map] at hb h9
      omega
  have hwalk := lawM_walk W X0 bul0 X1
  rw [Array.toArray_toList] at hwalk
  refine hwalk.mono fun e W' ⟨he, bel⟩ => ?_
  subst he
  exact ⟨_, rfl, _, _, _, [], _, [], hW', trodAll_mk1 (shut_bool Tryz.underlying4 _), (trodAll_cons_mk (Below.trod laidOut (by kernel_rfl) (of_decide_eq_true (by kernel_rfl)) k0 bel lt0) (trodAll_cons_mk (Below.trod laidOut (by kernel_rfl) (of_decide_eq_true (by kernel_rfl)) k1 bel lt1) trodAll_mk0)), rfl, bel.frame _, fun h => by cases h⟩

theorem over : Rows.modulesMoreUptoRow.holds Tryz.pinned (Rows.OpenSpec.upto Rows.modulesMoreSpec) :=
  OpenClaim.holds_of_cond 5 Tryz.f5 rfl rfl rfl rfl rfl rfl rfl ⟨rfl, rfl, rfl, rfl, rfl⟩ rfl rfl rfl rfl rfl (by kernel_rfl) Tryz.func5 (by kernel_rfl)
    (of_decide_eq_true (by kernel_rfl)) (by unfold Func.isWrapper; first | (rw [if_pos (by decide +kernel)]; kernel_rfl) | (rw [if_neg (by decide +kernel)]; exact ⟨rfl, rfl⟩))
    (fun os started H enc _ => lifted os started H enc)

theorem modulesMoreUpto_holds : Rows.ModulesMoreUptoSaid := over
#print axioms modulesMoreUpto_holds
end Go.Proofs.YtikplcpghohklaaGreat
