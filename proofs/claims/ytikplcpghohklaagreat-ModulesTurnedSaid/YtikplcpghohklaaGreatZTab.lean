/- modules.Table at a language with empty lists that goes with itself alone. -/
import Derived.Test.YtikplcpghohklaaGreatBare
import Derived.Test.YtikplcpghohklaaGreatModRow
namespace Go.Proofs.YtikplcpghohklaaGreat
set_option linter.unusedSimpArgs false
set_option linter.unusedVariables false
open Go.RowKit

theorem SlR.new1_ {α : Type} {w : World} {size : Nat} {e : TypeId} {R : List Value → α → Prop} {x : List Value} {y : α} {g B : Nat} (hg : g = w.heap.size) (hl : x.length = size) (hR : R x y) (hB : w.heap.size + 1 = B) : SlR (w.alloc (.cells x.toArray e)) B size R (.slice (some ⟨g, 0, none⟩) 1 1) [y] := by
  subst hB
  exact SlR.new1 hg hl hR
theorem infoZ_Language : (Tryz.prog.info? 39).map (fun i => (i.zero, i.size, i.bytes)) = some (some (.agg #[.string .empty, .int .i64 0, .slice none 0 0, .slice none 0 0, .slice none 0 0, .slice none 0 0, .slice none 0 0, .slice none 0 0]), 8, 168) := by kernel_rfl
theorem Language.Is.one {w : World} {B : Nat} (x : List Value) (y : Language) (h : Language.Is w B x y) : ∀ u ∈ x, u.oneCell' = true := by
  obtain ⟨v1, v2, v3, v4, v5, v6, rfl, r1, r2, r3, r4, r5, r6, _⟩ := h
  obtain ⟨_, _, _, rfl⟩ := r1.form'
  obtain ⟨_, _, _, rfl⟩ := r2.form'
  obtain ⟨_, _, _, rfl⟩ := r3.form'
  obtain ⟨_, _, _, rfl⟩ := r4.form'
  obtain ⟨_, _, _, rfl⟩ := r5.form'
  obtain ⟨_, _, _, rfl⟩ := r6.form'
  intro u hu
  simp only [List.mem_cons, List.not_mem_nil, or_false] at hu
  rcases hu with rfl | rfl | rfl | rfl | rfl | rfl | rfl | rfl <;> rfl
set_option maxRecDepth 100000 in
set_option maxHeartbeats 8000000 in
theorem b_table {ls : List Language} {l : Language} {v : Value} (name : ByteArray) (hname : name.size ≤ maxLen) (w w0 : World) (hs : LsR w0 w0.heap.size v ls) (hw : Below w0.heap.size w0 w)
    (hf : faultN ls = none) (k : Nat) (hq : findN ls name = (k : Int)) (hcl : closeN ls k = [k]) (hl : ls[k]? = some l) (hc : checkE l = ⟨0, 0, 0, 0⟩) (h0 : l.concepts = []) (h1 : l.rules = []) (h2 : l.equations = []) (h3 : l.editors = []) (h4 : l.templates = []) :
    Calls Tryz.prog 15 #[v, .string name] w fun e w' => (∃ p, e = .returned (.tuple #[.pointer (some p), .agg #[.int .i64 0, .int .i64 0, .int .i64 0, .int .i64 0]])) ∧ Below w.heap.size w w' := by
  obtain ⟨jI, hi, hz, hsz, hby⟩ := info_parts infoZ_Language
  have I := Lib.hid (And.intro hi (And.intro hz (And.intro hsz hby)))
  clear hi hz hsz hby
  have HC : Hid (∀ W, Below w0.heap.size w0 W → Calls Tryz.prog 13 #[v, .string name] W fun e w' => (∃ (a : Option Addr) (n c : Nat), e = .returned (.tuple #[.slice a n c, .agg #[.int .i64 0, .int .i64 0, .int .i64 0, .int .i64 0]]) ∧ SlR w' w'.heap.size 1 IsInt (.slice a n c) [(k : Int)]) ∧ Below W.heap.size W w') := Lib.hid fun W hW => (m_Close name hname W w0 hs hW).mono fun e w' h => by
    unfold ClosePost at h
    rw [hf] at h
    simp only at h
    rw [if_neg (by rw [hq]; omega), hq, Int.toNat_natCast, hcl] at h
    exact h
  have HN := Lib.hid (fun v' (W W0 : World) (h : LsR W0 W0.heap.size v' [l]) (hW : Below W0.heap.size W0 W) => b_new W W0 h hW hc h0 h1 h2 h3 h4)
  obtain ⟨a, c, rfl⟩ : ∃ a c, v = .slice a ls.length c := by obtain ⟨a, c, h, _⟩ := hs.form; exact ⟨a, c, h⟩
  have hcap := hs.caps
  have hkl : k < ls.length := (List.getElem?_eq_some_iff.1 hl).1
  obtain ⟨b, off, x, rfl, hbB, hxl, hR, hx⟩ := hs.at_ hl
  have HR := Lib.hid hR
  have Hw := Lib.hid hw
  have hsw := hw.size
  obtain ⟨n, hn⟩ : ∃ n, ls.length = n := ⟨_, rfl⟩
  rw [hn] at HC hcap hkl ⊢
  have hn63 : n ≤ 9223372036854775807 := by unfold maxLen at hcap; omega
  obtain ⟨v1, v2, v3, v4, v5, v6, rfl, s1, s2, s3, s4, s5, s6, _⟩ := hR
  obtain ⟨a1, n1, c1, rfl⟩ := s1.form'
  obtain ⟨a2, n2, c2, rfl⟩ := s2.form'
  obtain ⟨a3, n3, c3, rfl⟩ := s3.form'
  obtain ⟨a4, n4, c4, rfl⟩ := s4.form'
  obtain ⟨a5, n5, c5, rfl⟩ := s5.form'
  obtain ⟨a6, n6, c6, rfl⟩ := s6.form'
  have hX : ∀ (j : Nat) (u : Value), ([.string l.name, .int .i64 l.version, .slice a1 n1 c1, .slice a2 n2 c2, .slice a3 n3 c3, .slice a4 n4 c4, .slice a5 n5 c5, .slice a6 n6 c6] : List Value)[j]? = some u → w0.cell? ⟨b, off + k * 8 + j, none⟩ = some u := hx
  have HX := Lib.hid hX
  have ZB : Hid (Blk (w.alloc (.cells #[.int .i64 0, .int .i64 0, .int .i64 0, .int .i64 0] 28)) w.heap.size 28 #[.int .i64 0, .int .i64 0, .int .i64 0, .int .i64 0]) := Lib.hid (Blk.new w _ _)
  have LB : Hid (Below w.heap.size w (w.alloc (.cells #[.int .i64 0, .int .i64 0, .int .i64 0, .int .i64 0] 28))) := Lib.hid ((Below.refl _ _).alloc (Nat.le_refl _) _)
  have k63 : (k : Int) ≤ 9223372036854775807 := by omega
  clear hx hX hxl s1 s2 s3 s4 s5 s6 hs hw hf hq hcl hl hc h0 h1 h2 h3 h4 hcap hn
  go_enter Tryz.func15, Tryz.ntmps15
  go_wp2_with (go_at_call 13; refine (HC.out _ (Hw.out.alloc hsw _)).mono ?_; rintro e w1 ⟨⟨ra, rn, rc, rfl, hS⟩, hb⟩; have S1 := Lib.hid hS; have L1 : Hid (Below w.heap.size w w1) := Lib.hid (LB.out.trans (hb.mono (by simp))); have Z1 : Hid (Blk w1 w.heap.size 28 #[.int .i64 0, .int .i64 0, .int .i64 0, .int .i64 0]) := Lib.hid (ZB.out.below hb (by simp)); have hrn : rn = 1 := hS.len; clear hb hS)
  subst hrn
  obtain ⟨b3, off3, x3, rfl, hb3, _, ⟨rfl, _⟩, hx3⟩ := S1.out.at_ (k := 0) (y := (k : Int)) rfl
  have k0 : w1.cell? ⟨b3, off3, none⟩ = some (.int .i64 (k : Int)) := by have := hx3 0 _ rfl; simpa using this
  have W01 : Hid (Below w0.heap.size w0 w1) := Lib.hid (Hw.out.trans (L1.out.mono hsw))
  have y0 : w1.cell? ⟨b, off + k * 8, none⟩ = _ := (W01.out.cell (p := ⟨b, off + k * 8, none⟩) hbB).trans (HX.out 0 _ rfl)
  have y1 : w1.cell? ⟨b, off + k * 8 + 1, none⟩ = _ := (W01.out.cell (p := ⟨b, off + k * 8 + 1, none⟩) hbB).trans (HX.out 1 _ rfl)
  have y2 : w1.cell? ⟨b, off + k * 8 + 2, none⟩ = _ := (W01.out.cell (p := ⟨b, off + k * 8 + 2, none⟩) hbB).trans (HX.out 2 _ rfl)
  have y3 : w1.cell? ⟨b, off + k * 8 + 3, none⟩ = _ := (W01.out.cell (p := ⟨b, off + k * 8 + 3, none⟩) hbB).trans (HX.out 3 _ rfl)
  have y4 : w1.cell? ⟨b, off + k * 8 + 4, none⟩ = _ := (W01.out.cell (p := ⟨b, off + k * 8 + 4, none⟩) hbB).trans (HX.out 4 _ rfl)
  have y5 : w1.cell? ⟨b, off + k * 8 + 5, none⟩ = _ := (W01.out.cell (p := ⟨b, off + k * 8 + 5, none⟩) hbB).trans (HX.out 5 _ rfl)
  have y6 : w1.cell? ⟨b, off + k * 8 + 6, none⟩ = _ := (W01.out.cell (p := ⟨b, off + k * 8 + 6, none⟩) hbB).trans (HX.out 6 _ rfl)
  have y7 : w1.cell? ⟨b, off + k * 8 + 7, none⟩ = _ := (W01.out.cell (p := ⟨b, off + k * 8 + 7, none⟩) hbB).trans (HX.out 7 _ rfl)
  have hbw1 : b < w1.heap.size := Nat.lt_of_lt_of_le hbB W01.out.size
  have T1 : Hid (Blk (w1.alloc (.cells #[.int .i64 0, .int .i64 0, .int .i64 0, .int .i64 0] 28)) w1.heap.size 28 #[.int .i64 0, .int .i64 0, .int .i64 0, .int .i64 0]) := Lib.hid (Blk.new w1 _ _)
  have lw1 := Z1.out.lt
  clear hx3 S1
  refine wp_loop_rounds 2 ?_
  rw [rounds_succ]
  go_wp2_with (at_builtin
               go_must (refine wpList_append_list rfl (.tmp 28) (.tmp 33) _ rfl (w1.heap.size + 1) (w1.heap.size + 1 + 1) 39 jI _ 8 168 Tryz.underlying22 I.out.1 I.out.2.1 I.out.2.2.1 I.out.2.2.2 rfl (by omega) (R := Language.Is w0 w0.heap.size) (l := []) (m := [l]) (.slice none 0 0) rfl (by exact ⟨[], World.ownsRow_nil _ _ _ _, FlatR.nil_⟩) (some ⟨w1.heap.size + 1, 0, none⟩) 1 1 rfl (by exact SlR.new1_ (by simp) rfl HR.out (by simp)) 1 (by simp) Language.Is.one (by simp [maxLen]) (by simp) (by simp) ?_)
               intro xa xc w9 hown hgr
               have T9 : Hid (Blk w9 w1.heap.size 28 #[.int .i64 0, .int .i64 0, .int .i64 0, .int .i64 0]) := Lib.hid ((T1.out.alloc _).grown hgr (by simp [Value.ownBlock]))
               have B19 : Hid (Below w1.heap.size w1 w9) := Lib.hid ((((Below.refl w1.heap.size w1).alloc (Nat.le_refl _) _).alloc (below2 (Nat.le_refl _)) _).grown hgr (below3 (Nat.le_refl _)) (fun g hg => by simp [Value.ownBlock] at hg))
               have W09 := Lib.hid (W01.out.trans (B19.out.mono W01.out.size))
               have O9 := Lib.hid ((hown.imp (fun x y r => r.keep (fun p hp => W09.out.cell hp) W09.out.size)).read (by omega))
               clear hown hgr)
  rw [rounds_succ]
  go_wp2_with (go_at_call 36; refine (HN.out _ _ w9 O9.out (Below.refl _ _)).mono ?_; rintro e w10 ⟨⟨tp, rfl⟩, bN⟩; have T10 : Hid (Blk w10 w1.heap.size 28 #[.int .i64 0, .int .i64 0, .int .i64 0, .int .i64 0]) := Lib.hid (T9.out.below bN T9.out.lt); have B10 : Hid (Below w1.heap.size w1 w10) := Lib.hid (B19.out.trans (bN.mono B19.out.size)); have Z10 : Hid (Blk w10 w.heap.size 28 #[.int .i64 0, .int .i64 0, .int .i64 0, .int .i64 0]) := Lib.hid (Z1.out.below B10.out lw1); have L10 : Hid (Below w.heap.size w w10) := Lib.hid (L1.out.trans (B10.out.mono L1.out.size)); have t0 : w10.cell? ⟨w1.heap.size, 0, none⟩ = some (.int .i64 0) := T10.out.cell (i := 0) rfl; have t1 : w10.cell? ⟨w1.heap.size, 1, none⟩ = some (.int .i64 0) := T10.out.cell (i := 1) rfl; have t2 : w10.cell? ⟨w1.heap.size, 2, none⟩ = some (.int .i64 0) := T10.out.cell (i := 2) rfl; have t3 : w10.cell? ⟨w1.heap.size, 3, none⟩ = some (.int .i64 0) := T10.out.cell (i := 3) rfl; have g0 := T10.out.frozen 0; have g1 := T10.out.frozen 1; have g2 := T10.out.frozen 2; have g3 := T10.out.frozen 3; have z0 : w10.cell? ⟨w.heap.size, 0, none⟩ = some (.int .i64 0) := Z10.out.cell (i := 0) rfl; have z1 : w10.cell? ⟨w.heap.size, 1, none⟩ = some (.int .i64 0) := Z10.out.cell (i := 1) rfl; have z2 : w10.cell? ⟨w.heap.size, 2, none⟩ = some (.int .i64 0) := Z10.out.cell (i := 2) rfl; have z3 : w10.cell? ⟨w.heap.size, 3, none⟩ = some (.int .i64 0) := Z10.out.cell (i := 3) rfl; have f0 := Z10.out.frozen 0; have f1 := Z10.out.frozen 1; have f2 := Z10.out.frozen 2; have f3 := Z10.out.frozen 3; clear bN)
  generalize hW11 : World.setCell (World.setCell (World.setCell (World.setCell w10 _ _) _ _) _ _) _ _ = W11
  have T11 : Hid (Blk W11 w1.heap.size 28 #[.int .i64 0, .int .i64 0, .int .i64 0, .int .i64 0]) := Lib.hid (by rw [← hW11]; exact ((((T10.out.set_ 0 (.int .i64 0)).set_ 1 (.int .i64 0)).set_ 2 (.int .i64 0)).set_ 3 (.int .i64 0)))
  have Z11 : Hid (Blk W11 w.heap.size 28 #[.int .i64 0, .int .i64 0, .int .i64 0, .int .i64 0]) := Lib.hid (by rw [← hW11]; exact ((((Z10.out.far (Nat.ne_of_lt lw1) _).far (Nat.ne_of_lt lw1) _).far (Nat.ne_of_lt lw1) _).far (Nat.ne_of_lt lw1) _))
  have L11 : Hid (Below w.heap.size w W11) := Lib.hid (by rw [← hW11]; exact ((((L10.out.setCell (Nat.le_of_lt lw1) _).setCell (Nat.le_of_lt lw1) _).setCell (Nat.le_of_lt lw1) _).setCell (Nat.le_of_lt lw1) _))
  clear hW11 t0 t1 t2 t3 g0 g1 g2 g3 z0 z1 z2 z3 f0 f1 f2 f3
  have z0 : W11.cell? ⟨w.heap.size, 0, none⟩ = some (.int .i64 0) := Z11.out.cell (i := 0) rfl
  have z1 : W11.cell? ⟨w.heap.size, 1, none⟩ = some (.int .i64 0) := Z11.out.cell (i := 1) rfl
  have z2 : W11.cell? ⟨w.heap.size, 2, none⟩ = some (.int .i64 0) := Z11.out.cell (i := 2) rfl
  have z3 : W11.cell? ⟨w.heap.size, 3, none⟩ = some (.int .i64 0) := Z11.out.cell (i := 3) rfl
  have f0 := Z11.out.frozen 0
  have f1 := Z11.out.frozen 1
  have f2 := Z11.out.frozen 2
  have f3 := Z11.out.frozen 3
  have t0 : W11.cell? ⟨w1.heap.size, 0, none⟩ = some (.int .i64 0) := T11.out.cell (i := 0) rfl
  have t1 : W11.cell? ⟨w1.heap.size, 1, none⟩ = some (.int .i64 0) := T11.out.cell (i := 1) rfl
  have t2 : W11.cell? ⟨w1.heap.size, 2, none⟩ = some (.int .i64 0) := T11.out.cell (i := 2) rfl
  have t3 : W11.cell? ⟨w1.heap.size, 3, none⟩ = some (.int .i64 0) := T11.out.cell (i := 3) rfl
  have g0 := T11.out.frozen 0
  have g1 := T11.out.frozen 1
  have g2 := T11.out.frozen 2
  have g3 := T11.out.frozen 3
  go_still_tail 3, mixed
  change wpList _ _ _ _ _ W11.drew
  go_wp2_with fail
  refine bodyPost_ret (v := .tuple #[.pointer (some tp), .agg #[.int .i64 0, .int .i64 0, .int .i64 0, .int .i64 0]]) (by simp [results, Tryz.results15, go_sem, z0, z1, z2, z3]) rfl ?_
  exact ⟨⟨_, rfl⟩, ((((L11.out.drew.setCell (p := ⟨w.heap.size, 0, none⟩) (Nat.le_refl _) _).setCell (p := ⟨w.heap.size, 1, none⟩) (Nat.le_refl _) _).setCell (p := ⟨w.heap.size, 2, none⟩) (Nat.le_refl _) _).setCell (p := ⟨w.heap.size, 3, none⟩) (Nat.le_refl _) _)⟩
end Go.Proofs.YtikplcpghohklaaGreat
