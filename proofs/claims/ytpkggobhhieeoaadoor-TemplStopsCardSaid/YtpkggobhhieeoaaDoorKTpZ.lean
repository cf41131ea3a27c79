/- - -/
import Derived.Test.YtpkggobhhieeoaaDoorKM8
import Derived.Test.YtpkggobhhieeoaaDoorKTpX
import Derived.Test.YtpkggobhhieeoaaDoorKTpY
set_option maxRecDepth 100000
set_option maxHeartbeats 32000000
set_option linter.unusedSimpArgs false
set_option linter.unusedVariables false
namespace Go.Proofs.YtpkggobhhieeoaaDoor
open Go.RowKit
theorem info_Piece : (Tryd.prog.info? 30).map (fun i => (i.zero, i.size, i.bytes)) = some (some (.agg #[.int .i64 0, .string ⟨#[]⟩, .string ⟨#[]⟩]), 3, 40) := by kernel_rfl
theorem Pc.one (x : List Value) (p : Pc) (h : Pc.Is x p) : ∀ u ∈ x, u.oneCell' = true := by
  obtain ⟨rfl, _⟩ := h
  intro u hu
  simp [Pc.cells] at hu
  rcases hu with rfl | rfl | rfl <;> rfl
theorem BxT.newE (w : World) (e : Int) : BxT (((w.alloc (.cells #[.slice none 0 0] 22)).alloc (.cells #[.int .i64 0] 3)).alloc (.cells #[.int .i64 e] 23)) w.heap.size (.slice none 0 0) 0 e :=
  ⟨((Blk.new _ _ _).alloc _).alloc _, (Blk.new_ (by simp) _ _).alloc _, Blk.new_ (by simp) _ _⟩
structure PsT (w : World) (s : ByteArray) (i : Nat) (a : Option Addr) (m c : Nat) (ps : List Pc) (X : World) : Prop where
  bx : BxT X w.heap.size (.slice none 0 0) 0 0
  rd : RdS (w.heap.size + 3) s (.slice a m c) i X
  own : Own1 X (w.heap.size + 4) 30 3 Pc.Is (.slice a m c) ps
  bel : Below w.heap.size w X
  len : ps.length = m
theorem PsT.mv {w : World} {s : ByteArray} {i j : Nat} {a : Option Addr} {m c : Nat} {ps : List Pc} {X X' : World} (h : PsT w s i a m c ps X) (hm : Mv (w.heap.size + 3) X X') (hr : RdS (w.heap.size + 3) s (.slice a m c) j X') : PsT w s j a m c ps X' :=
  ⟨h.bx.below hm.low (by omega), hr, h.own.mv hm (by omega), h.bel.trans (hm.low.mono (by omega)), h.len⟩
theorem PsT.quiet {w : World} {s : ByteArray} {i : Nat} {a : Option Addr} {m c : Nat} {ps : List Pc} {X X' : World} (h : PsT w s i a m c ps X) (hq : Quiet X X') : PsT w s i a m c ps X' := h.mv (Mv.quiet hq) (h.rd.quiet hq)
theorem PsT.push {w : World} {s : ByteArray} {a a' : Option Addr} {m c c' k : Nat} {ps qs : List Pc} {X X' : World} (h : PsT w s k a m c ps X) (o : Obj) (hown : Own1 X' (w.heap.size + 4) 30 3 Pc.Is (.slice a' (m + 1) c') qs) (hgr : (X.alloc o).grownBy X' (Value.slice a m c).ownBlock) (hq : qs.length = m + 1) :
    BxT X' w.heap.size (.slice none 0 0) 0 0 ∧ RdS (w.heap.size + 3) s (.slice a m c) k X' ∧ Own1 X' (w.heap.size + 4) 30 3 Pc.Is (.slice a' (m + 1) c') qs ∧ Below w.heap.size w X' ∧ qs.length = m + 1 := by
  have hne : ∀ b, b < w.heap.size + 4 → some b ≠ (Value.slice a m c).ownBlock := fun b hb e => by have := (h.own.block b e.symm).1; omega
  have hbo : Below (w.heap.size + 4) X X' := (zB.alloc h.rd.box.lt o).trans (below_of_grown (h.own.alloc o) (by rw [World.size_alloc]; have := h.rd.box.lt; omega) hgr)
  exact ⟨h.bx.below hbo (by omega), h.rd.onto hbo (by omega), hown, h.bel.trans (hbo.mono (by omega)), hq⟩
theorem PsT.store {w : World} {s : ByteArray} {a a' : Option Addr} {m m' c c' k : Nat} {qs : List Pc} {X' : World} (h : BxT X' w.heap.size (.slice none 0 0) 0 0 ∧ RdS (w.heap.size + 3) s (.slice a m c) k X' ∧ Own1 X' (w.heap.size + 4) 30 3 Pc.Is (.slice a' m' c') qs ∧ Below w.heap.size w X' ∧ qs.length = m') :
    PsT w s k a' m' c' qs (X'.setCell ⟨w.heap.size + 3, 2, none⟩ (.slice a' m' c')) := by
  obtain ⟨h1, h2, h3, h4, h5⟩ := h
  have hb := (Below.refl (w.heap.size + 3) X').setCell (p := ⟨w.heap.size + 3, 2, none⟩) zL (.slice a' m' c')
  exact ⟨h1.below hb (by omega), h2.mv hb (by have := h2.box.set_ 2 (.slice a' m' c'); simpa using this) h2.le, h3.setFar (by show w.heap.size + 3 < _; omega) _, h4.trans (hb.mono (by omega)), h5⟩
theorem getD_set_ne {t : Array Value} {k j : Nat} (h : j ≠ k) (v : Value) : (t.setIfInBounds k v).getD j undef = t.getD j undef := by
  simp only [Array.getD_eq_getD_getElem?]
  rw [Array.getElem?_setIfInBounds_ne (fun e => h e.symm)]
theorem res_put {k : Nat} (hk : 5 ≤ k) (t : Array Value) (v : Value) : results Tryd.f7 (t.setIfInBounds k v) = results Tryd.f7 t := by
  simp only [results, Tryd.results7, List.mapM_toArray, List.mapM_cons, List.mapM_nil, getD_set_ne (show 2 ≠ k by omega), getD_set_ne (show 3 ≠ k by omega), getD_set_ne (show 4 ≠ k by omega)]
theorem leaves_eq {P : Program} {g : Func} {R : Ending → World → Prop} {t t' : Array Value} (h : results g t = results g t') : ∀ (ds : List Deferred) (u : FrameMode) (w : World), Leaves P g t R ds u w → Leaves P g t' R ds u w
  | [], .returning, w, hl => by unfold Leaves at hl ⊢; rw [← h]; exact hl
  | [], .panicking chain, w, hl => by unfold Leaves at hl ⊢; exact hl
  | [], .run, w, hl => by unfold Leaves at hl; exact hl.elim
  | d :: ds, u, w, hl => by
    unfold Leaves at hl ⊢
    obtain ⟨h1, fv, cap, f, args, h2, h3, h4⟩ := hl
    refine ⟨h1, fv, cap, f, args, h2, h3, h4.mono ?_⟩
    intro e u' w' h5
    cases e with
    | returned _ => exact leaves_eq h ds _ _ h5
    | panicked _ => exact leaves_eq h ds _ _ h5
    | outgrown => exact h5
def RowIs (w : World) (R : List Pc × Nat × Nat) (e : Ending) (w' : World) : Prop :=
  ∃ v, e = .returned (.tuple #[v, .int .i64 (R.2.1 : Int), .int .i64 (R.2.2 : Int)]) ∧ Own1 w' w.heap.size 30 3 Pc.Is v R.1 ∧ Below w.heap.size w w'
theorem own1_nil {α : Type} (w : World) (base : Nat) (t : TypeId) (size : Nat) (R : List Value → α → Prop) : Own1 w base t size R (.slice none 0 0) ([] : List α) := ⟨[], World.ownsRow_nil _ _ _ _, FlatR.nil_⟩
theorem row_any (s : ByteArray) (hs : s.size ≤ maxLen) (w : World) (hm : Marks w) (hg : Signs w) : Calls Tryd.prog 7 #[.string s] w (RowIs w (rowN (bs s))) := by
  have hmf : ∀ (fn : Fn) (first cap : Array Value) (w : World), (Instr.makeFunc fn first cap).run Tryd.prog w = .ok (.func fn first cap) w := fun _ _ _ _ => rfl
  obtain ⟨jp, hi, hz, hsz, hby⟩ := info_parts info_Piece
  have I := zH (And.intro hi (And.intro hz (And.intro hsz hby)))
  clear hi hz hsz hby
  have h4w : 4 < w.heap.size := by
    obtain ⟨t, fr, h⟩ := signs_block hg
    rcases Nat.lt_or_ge 4 w.heap.size with h0 | h0
    · exact h0
    · rw [Array.getElem?_eq_none h0] at h; cases h
  have H4W := zH h4w
  have HMG := zH (And.intro hm hg)
  have B0 : Hid (Below w.heap.size w (((w.alloc (.cells #[.slice none 0 0] 22)).alloc (.cells #[.int .i64 0] 3)).alloc (.cells #[.int .i64 0] 23))) := zH (((zB.alloc zL _).alloc (by simp) _).alloc (by simp; omega) _)
  have X0 := zH (BxT.new w)
  obtain ⟨n, hn⟩ : ∃ n, s.size = n := ⟨_, rfl⟩
  have hln : (bs s).length = n := by rw [bs_len, hn]
  have hn' : (s.size : Int) = (n : Int) := by rw [hn]
  have Hln := zH hln
  have Hn := zH hn
  obtain ⟨R, hR⟩ : ∃ R, rowN (bs s) = R := ⟨_, rfl⟩
  rw [hR]
  clear hm hg h4w
  by_cases hbig : 4096 < n
  · have hv : R = ([], 0, 3) := by rw [← hR]; unfold rowN; rw [if_pos (by omega)]
    subst hv
    have d1 : decide ((4096 : Int) < (n : Int)) = true := by simp; omega
    have d2 : (4096 : Int) < (n : Int) := by omega
    clear hR hln hn hs
    go_enter_defers Tryd.func7, Tryd.ntmps7
    go_wp2_with fail
    generalize hwz : World.alloc _ _ = wz
    have hz : BxT wz w.heap.size (.slice none 0 0) 0 3 ∧ Below w.heap.size w wz := by rw [← hwz]; exact ⟨BxT.newE w 3, ((zB.alloc zL _).alloc (by simp) _).alloc (by simp; omega) _⟩
    obtain ⟨c0, c1, c2, z0, z1, z2, lb⟩ := hz.1.cells
    have c2' : wz.cell? ⟨w.heap.size + 1 + 1, 0, none⟩ = some (.int .i64 3) := c2
    simp [bodyPostD, Leaves, settle, results, Tryd.results7, go_sem, c0, c1, c2']
    exact ⟨_, rfl, own1_nil _ _ _ _ _, hz.2⟩
  · have d1 : decide ((4096 : Int) < (n : Int)) = false := by simp; omega
    have d2 : ¬ (4096 : Int) < (n : Int) := by omega
    have hrow : rowS (bs s) n 0 [] = R := by rw [← hR]; unfold rowN; rw [if_neg (by omega), hln]
    have HR := zH hrow
    clear hR hln hn hs hrow
    go_enter_defers Tryd.func7, Tryd.ntmps7
    go_wp2_with fail
    have HP0 : Hid (PsT w s 0 none 0 0 [] ((((w.alloc (.cells #[.slice none 0 0] 22)).alloc (.cells #[.int .i64 0] 3)).alloc (.cells #[.int .i64 0] 23)).alloc (.cells #[.string s, .int .i64 0, .slice none 0 0] 43))) := zH (by
      have ba := (Below.refl (((w.alloc (.cells #[.slice none 0 0] 22)).alloc (.cells #[.int .i64 0] 3)).alloc (.cells #[.int .i64 0] 23)).heap.size (((w.alloc (.cells #[.slice none 0 0] 22)).alloc (.cells #[.int .i64 0] 3)).alloc (.cells #[.int .i64 0] 23))).alloc zL (.cells #[.string s, .int .i64 0, .slice none 0 0] 43)
      have bw := B0.out.trans (ba.mono B0.out.size)
      have hsz3 : (((w.alloc (.cells #[.slice none 0 0] 22)).alloc (.cells #[.int .i64 0] 3)).alloc (.cells #[.int .i64 0] 23)).heap.size = w.heap.size + 3 := by simp
      refine ⟨X0.out.below ba (by rw [hsz3]; omega), ⟨?_, by have := H4W.out; omega, HMG.out.1.below bw, HMG.out.2.of_block (bw.block 4 H4W.out), Nat.zero_le _, by rw [Hn.out]; omega⟩, own1_nil _ _ _ _ _, bw, rfl⟩
      exact Blk.new_ hsz3.symm _ _)
    generalize World.alloc _ _ = WS at *
    go_loopg [] n (fun gk wr => ∃ (i : Nat) (a : Option Addr) (m c : Nat) (ps : List Pc), i ≤ n ∧ n ≤ gk + i ∧ m ≤ 64 ∧ Hid (rowS (bs s) gk i ps = R) ∧ Hid (PsT w s i a m c ps wr))
    case atStart => exact ⟨0, none, 0, 0, [], Nat.zero_le _, by omega, by omega, HR, HP0⟩
    case round =>
      clear HP0 X0 B0 HR
      obtain ⟨i, a, m, c, ps, hin, hfi, hm64, hu, hp⟩ := hrel
      obtain ⟨f0, f1, f2, f3, f4, f5⟩ := hp.out.rd.facts
      have i0 : (0 : Int) ≤ (i : Int) := Int.natCast_nonneg _
      by_cases hlt : i < n
      · have d3 : decide (i < n) = true := by simpa using hlt
        by_cases h64 : m = 64
        · have hv := row_full hu.out (by omega) (by rw [Hln.out]; exact hlt) (by rw [hp.out.len]; exact h64)
          have e1 : ((m : Int) == 64) = true := by simp; omega
          subst hv
          go_wp2_with fail
          refine leaves_cons (f := 14) (args := #[.pointer (some ⟨w.heap.size, 0, none⟩), .pointer (some ⟨w.heap.size + 1, 0, none⟩), .pointer (some ⟨w.heap.size + 1 + 1, 0, none⟩)]) (by simp) (by simp [go_sem]) ?_
          refine (catch_wrongT w.heap.size (i : Int) 4 _ _ [] _ _ ⟨_, _, _, rfl⟩ hp.out.bx).mono ?_
          rintro e u' wf ⟨rfl, rfl, hBf, hKf⟩
          obtain ⟨c0, c1, c2, z0, z1, z2, lb⟩ := hKf.cells
          have c2' : wf.cell? ⟨w.heap.size + 1 + 1, 0, none⟩ = some (.int .i64 4) := c2
          have HF : Hid (Below w.heap.size w wf) := zH (hp.out.bel.trans hBf)
          clear c2 hBf hKf z0 z1 z2 lb
          simp [Leaves, settle, results, Tryd.results7, go_sem, c0, c1, c2']
          exact ⟨_, rfl, own1_nil _ _ _ _ _, HF.out⟩
        · have e1 : ((m : Int) == 64) = false := by simp; omega
          have hm1 : m + 1 ≤ 64 := by omega
          have hps : ps.length ≠ 64 := by rw [hp.out.len]; exact h64
          have hlb : i < (bs s).length := by rw [Hln.out]; exact hlt
          have LQ : w.heap.size + 3 < wr.heap.size := f5
          have tokA : True := trivial
          have tokB : True := trivial
          have NX : Hid (∀ (X : World) (b : Bool), RdS (w.heap.size + 3) s (.slice a m c) i X → decide ((bs s)[i]? = some 123) = b → Calls Tryd.prog 15 #[.pointer (some ⟨w.heap.size + 1 + 1 + 1, 0, none⟩), .string ⟨#[123]⟩] X fun e w' => e = .returned (.bool b) ∧ Quiet X w') := zH (fun X b hX hb => t_next ⟨#[123]⟩ (by decide) b (by rw [next_one (c := 123) rfl]; exact hb) hX)
          have NX2 : Hid (∀ (X : World) (b : Bool), RdS (w.heap.size + 3) s (.slice a m c) i X → (decide ((bs s)[i]? = some 123) && decide ((bs s)[i + 1]? = some 123)) = b → Calls Tryd.prog 15 #[.pointer (some ⟨w.heap.size + 1 + 1 + 1, 0, none⟩), .string ⟨#[123, 123]⟩] X fun e w' => e = .returned (.bool b) ∧ Quiet X w') := zH (fun X b hX hb => t_next ⟨#[123, 123]⟩ (by decide) b (by rw [next_two (c := 123) rfl]; exact hb) hX)
          by_cases hb : insB (bs s) i = true
          · have hb1 : (bs s)[i]? = some 123 ∧ (bs s)[i + 1]? ≠ some 123 := by simpa [insB] using hb
            have i2 : i + 1 ≤ n := hlt
            cases hins : insertS (bs s) (i + 1) with
            | inr k =>
              have hv := row_ins_bad hu.out (by omega) hlb hps hb hins
              subst hv
              go_upto_region 10 with (first
                | (have _t := tokA; go_at_call 15; (with_reducible refine (NX.out _ true hp.out.rd (by simpa using hb1.1)).mono ?_); rintro e w2 ⟨rfl, nq, rfl⟩; have PQ := zH (hp.out.quiet (X' := wr.drewN nq) ⟨nq, rfl⟩); clear tokA _t)
                | (have _t := tokB; go_at_call 15; (with_reducible refine (NX2.out _ false PQ.out.rd (by simpa using fun _ => hb1.2)).mono ?_); rintro e w2 ⟨rfl, nq2, rfl⟩; clear tokB _t))
              generalize hwa : World.setCell _ _ _ = wa
              have PA : Hid (PsT w s (i + 1) a m c ps wa) := zH (by
                rw [← hwa]
                have h2 := hp.out.rd.step (j := i + 1) (u := .int .i64 ((i : Int) + 1)) (by go_num) (by rw [Hn.out]; exact i2) (nq + nq2)
                exact hp.out.mv h2.1 h2.2)
              clear hwa PQ NX NX2 f0 f1 f2 f3 f4 f5
              obtain ⟨f0, f1, f2, f3, f4, f5⟩ := PA.out.rd.facts
              have INS : Hid (∀ X, RdS (w.heap.size + 3) s (.slice a m c) (i + 1) X → Calls Tryd.prog 16 #[.pointer (some ⟨w.heap.size + 1 + 1 + 1, 0, none⟩)] X fun e w' => e = .panicked (thrownT k 200) ∧ Mv (w.heap.size + 3) X w') := zH (fun X hX => t_insert hins hX)
              refine wp_region_held_drew (S := fun w' => w'.cell? ⟨w.heap.size + 1 + 1 + 1, 2, none⟩ = some (.slice a m c)) (by kernel_rfl) f2 (fun hHeld => ?_)
              refine wpAnyH_take (i := 0) (v := ?_) rfl (by kernel_rfl) (by kernel_rfl) (by kernel_rfl) (fun _ b _ h => leaves_eq (res_put (k := 46) (by decide) b.tmps _) _ _ _ h) (Or.inl ⟨by rfl, ?_⟩) (by assumption) ?_
              rotate_left
              · intro w hSw; (try dsimp only at hSw); go_simp; with_reducible rfl
              try simp only [Act.put, List.setIfInBounds_toArray, List.set_cons_zero, List.set_cons_succ]
              refine wpAnyH_take (i := 1) (v := ?_) rfl (by kernel_rfl) (by kernel_rfl) (by kernel_rfl) (fun _ b _ h => leaves_eq (res_put (k := 47) (by decide) b.tmps _) _ _ _ h) (Or.inl ⟨by rfl, ?_⟩) (by assumption) ?_
              rotate_left
              · intro w hSw; (try dsimp only at hSw); go_simp; with_reducible rfl
              try simp only [Act.put, List.setIfInBounds_toArray, List.set_cons_zero, List.set_cons_succ]
              refine wpAnyH_take (i := 2) (v := ?_) rfl (by kernel_rfl) (by kernel_rfl) (by kernel_rfl) (fun _ b _ h => leaves_eq (res_put (k := 48) (by decide) b.tmps _) _ _ _ h) (Or.inl ⟨by rfl, ?_⟩) (by assumption) ?_
              rotate_left
              · intro w hSw; (try dsimp only at hSw); go_simp; with_reducible rfl
              try simp only [Act.put, List.setIfInBounds_toArray, List.set_cons_zero, List.set_cons_succ]
              refine wpAnyH_take (i := 3) (v := ?_) rfl (by kernel_rfl) (by kernel_rfl) (by kernel_rfl) (fun _ b _ h => leaves_eq (res_put (k := 49) (by decide) b.tmps _) _ _ _ h) (Or.inl ⟨by rfl, ?_⟩) (by assumption) ?_
              rotate_left
              · intro w hSw; (try dsimp only at hSw); go_simp; with_reducible rfl
              try simp only [Act.put, List.setIfInBounds_toArray, List.set_cons_zero, List.set_cons_succ]
              refine wpAnyH_take (i := 4) (v := ?_) rfl (by kernel_rfl) (by kernel_rfl) (by kernel_rfl) (fun _ b _ h => leaves_eq (res_put (k := 50) (by decide) b.tmps _) _ _ _ h) (Or.inl ⟨by rfl, ?_⟩) (by assumption) ?_
              rotate_left
              · intro w hSw; (try dsimp only at hSw); go_simp; with_reducible rfl
              try simp only [Act.put, List.setIfInBounds_toArray, List.set_cons_zero, List.set_cons_succ]
              refine wpAnyH_take (i := 5) (v := ?_) rfl (by kernel_rfl) (by kernel_rfl) (by kernel_rfl) (fun _ b _ h => leaves_eq (res_put (k := 51) (by decide) b.tmps _) _ _ _ h) (Or.inl ⟨by rfl, ?_⟩) (by assumption) ?_
              rotate_left
              · intro w hSw; (try dsimp only at hSw); go_simp; with_reducible rfl
              try simp only [Act.put, List.setIfInBounds_toArray, List.set_cons_zero, List.set_cons_succ]
              refine wpAnyH_ready (rs := [6]) (by kernel_rfl) (by simp) ?_
              refine AllReadyH.cons rfl (fun K hK => ?_) AllReadyH.nil
              go_simp
              go_wp2_with (go_at_call 16; (refine (INS.out _ (PA.out.rd.quiet ⟨1, rfl⟩)).mono ?_); rintro e w1 ⟨rfl, h1⟩; have M1 : Hid (Mv (w.heap.size + 3) wa w1) := zH ((Mv.quiet ⟨1, rfl⟩).trans h1); clear h1)
              refine leaves_cons (f := 14) (args := #[.pointer (some ⟨w.heap.size, 0, none⟩), .pointer (some ⟨w.heap.size + 1, 0, none⟩), .pointer (some ⟨w.heap.size + 1 + 1, 0, none⟩)]) (by simp) (by simp [go_sem]) ?_
              refine (catch_wrongT w.heap.size (k : Int) 200 _ _ [] _ _ ⟨_, _, _, rfl⟩ (PA.out.bx.below M1.out.low (by omega))).mono ?_
              rintro e u' wf ⟨rfl, rfl, hBf, hKf⟩
              obtain ⟨c0, c1, c2, z0, z1, z2, lb⟩ := hKf.cells
              have c2' : wf.cell? ⟨w.heap.size + 1 + 1, 0, none⟩ = some (.int .i64 200) := c2
              have HF : Hid (Below w.heap.size w wf) := zH ((PA.out.bel.trans (M1.out.low.mono (by omega))).trans hBf)
              clear c2 hBf hKf z0 z1 z2 lb
              simp [Leaves, settle, results, Tryd.results7, go_sem, c0, c1, c2']
              exact ⟨_, rfl, own1_nil _ _ _ _ _, HF.out⟩
            | inl x =>
              obtain ⟨p, k⟩ := x
              have hin2 := insert_some (bs_bytes s) (by rw [Hln.out]; omega) (by rw [Hln.out]; omega) hins
              go_upto_region 10 with (first
                | (have _t := tokA; go_at_call 15; (with_reducible refine (NX.out _ true hp.out.rd (by simpa using hb1.1)).mono ?_); rintro e w2 ⟨rfl, nq, rfl⟩; have PQ := zH (hp.out.quiet (X' := wr.drewN nq) ⟨nq, rfl⟩); clear tokA _t)
                | (have _t := tokB; go_at_call 15; (with_reducible refine (NX2.out _ false PQ.out.rd (by simpa using fun _ => hb1.2)).mono ?_); rintro e w2 ⟨rfl, nq2, rfl⟩; clear tokB _t))
              generalize hwa : World.setCell _ _ _ = wa
              have PA : Hid (PsT w s (i + 1) a m c ps wa) := zH (by
                rw [← hwa]
                have h2 := hp.out.rd.step (j := i + 1) (u := .int .i64 ((i : Int) + 1)) (by go_num) (by rw [Hn.out]; exact i2) (nq + nq2)
                exact hp.out.mv h2.1 h2.2)
              clear hwa PQ NX NX2 f0 f1 f2 f3 f4 f5
              obtain ⟨f0, f1, f2, f3, f4, f5⟩ := PA.out.rd.facts
              have INS : Hid (∀ X, RdS (w.heap.size + 3) s (.slice a m c) (i + 1) X → Calls Tryd.prog 16 #[.pointer (some ⟨w.heap.size + 1 + 1 + 1, 0, none⟩)] X fun e w' => e = .returned (.agg #[.int .i64 p.kind, .string (txt p.text), .string (txt p.mark)]) ∧ Mv (w.heap.size + 3) X w' ∧ RdS (w.heap.size + 3) s (.slice a m c) k w') := zH (fun X hX => t_insert hins hX)
              have POK := zH hin2.1
              have LQA : w.heap.size + 3 < wa.heap.size := f5
              refine wp_np ?_
              go_region_law (first
                | (go_simp; go_at_call 16; go_must (refine (INS.out _ (PA.out.rd.quiet ⟨1, rfl⟩)).mono ?_); rintro e w1 ⟨rfl, h1, h2⟩; go_must (have P1 := zH ((PA.out.quiet ⟨1, rfl⟩).mv h1 h2)); clear h1 h2; go_must (obtain ⟨g0, g1, g2, g3, g4, g5⟩ := P1.out.rd.facts))
                | (skip
                   go_must (refine step_append_list rfl (.tmp 50) (.tmp 53) _ (by rfl) (w.heap.size + 4) (w1.heap.size + 1) 30 jp _ 3 40 Tryd.underlying22 I.out.1 I.out.2.1 I.out.2.2.1 I.out.2.2.2 rfl (by omega) (R := Pc.Is) (l := ps) (m := [p]) (.slice a m c) (by rfl) (by exact P1.out.own.alloc (.cells #[.int .i64 p.kind, .string (txt p.text), .string (txt p.mark)] 30)) (some ⟨w1.heap.size, 0, none⟩) 1 1 (by rfl) (by exact SlR.new1 (w := w1) (e := 30) (g := w1.heap.size) rfl (x := [.int .i64 p.kind, .string (txt p.text), .string (txt p.mark)]) rfl (R := Pc.Is) (y := p) ⟨rfl, POK.out⟩) (m + 1) (by rw [P1.out.len]) Pc.one (by unfold maxLen; have := P1.out.len; omega) (by have := P1.out.len; omega) (by rw [World.size_alloc]; have := P1.out.rd.box.lt; omega) ?_)
                   intro a5 c5 w5 hown hgr
                   go_must (have K5 := zH (P1.out.push (k := k) (.cells #[.int .i64 p.kind, .string (txt p.text), .string (txt p.mark)] 30) hown hgr (by rw [List.length_append, P1.out.len]; rfl)))
                   go_must (obtain ⟨m0, m1, m2, m3, m4, m5⟩ := K5.out.2.1.facts)
                   clear hown hgr)
                | fail)
              all_goals
                simp only [noP]
                generalize hwb : World.setCell _ _ _ = wb
                have PB : Hid (PsT w s k a5 (m + 1) c5 (ps ++ [p]) wb) := zH (by rw [← hwb]; exact PsT.store K5.out)
                clear hwb K5 m0 m1 m2 m3 m4 m5 g0 g1 g2 g3 g4 g5 f0 f1 f2 f3 f4 f5
                obtain ⟨f0, f1, f2, f3, f4, f5⟩ := PB.out.rd.facts
                by_cases hk : (bs s)[k]? = some 125
                · have hv := row_ins hu.out (by omega) hlb hps hb hins hk
                  have HV := zH hv
                  have k1 : k + 1 ≤ n := by have := (List.getElem?_eq_some_iff.1 hk).1; rw [Hln.out] at this; exact this
                  have MY : Hid (Calls Tryd.prog 17 #[.pointer (some ⟨w.heap.size + 1 + 1 + 1, 0, none⟩), .string ⟨#[125]⟩] wb fun e w' => e = .returned (.tuple #[]) ∧ Mv (w.heap.size + 3) wb w' ∧ RdS (w.heap.size + 3) s (.slice a5 (m + 1) c5) (k + 1) w') := zH (t_must_yes ⟨#[125]⟩ (c := 125) rfl hk PB.out.rd)
                  clear hv hk
                  go_wp2_with (go_at_call 17; (with_reducible refine MY.out.mono ?_); rintro e w6 ⟨rfl, h1, h2⟩; have P6 := zH (PB.out.mv h1 h2); clear h1 h2)
                  go_roundg (gk - 1)
                  case measure => omega
                  case rel => exact ⟨k + 1, a5, m + 1, c5, ps ++ [p], k1, by omega, hm1, HV.out, P6⟩
                · have hv := row_ins_no hu.out (by omega) hlb hps hb hins hk
                  subst hv
                  have MN : Hid (Calls Tryd.prog 17 #[.pointer (some ⟨w.heap.size + 1 + 1 + 1, 0, none⟩), .string ⟨#[125]⟩] wb fun e w' => e = .panicked (thrownT k 200) ∧ Quiet wb w') := zH (t_must_no ⟨#[125]⟩ (c := 125) rfl hk PB.out.rd)
                  go_wp2_with (go_at_call 17; (with_reducible refine MN.out.mono ?_); rintro e w6 ⟨rfl, h1⟩; have P6 := zH (PB.out.quiet h1); clear h1)
                  refine leaves_cons (f := 14) (args := #[.pointer (some ⟨w.heap.size, 0, none⟩), .pointer (some ⟨w.heap.size + 1, 0, none⟩), .pointer (some ⟨w.heap.size + 1 + 1, 0, none⟩)]) (by simp) (by simp [go_sem]) ?_
                  refine (catch_wrongT w.heap.size (k : Int) 200 _ _ [] _ _ ⟨_, _, _, rfl⟩ P6.out.bx).mono ?_
                  rintro e u' wf ⟨rfl, rfl, hBf, hKf⟩
                  obtain ⟨c0, c1, c2, z0, z1, z2, lb⟩ := hKf.cells
                  have c2' : wf.cell? ⟨w.heap.size + 1 + 1, 0, none⟩ = some (.int .i64 200) := c2
                  have HF : Hid (Below w.heap.size w wf) := zH (P6.out.bel.trans hBf)
                  clear c2 hBf hKf z0 z1 z2 lb
                  simp [Leaves, settle, results, Tryd.results7, go_sem, c0, c1, c2']
                  exact ⟨_, rfl, own1_nil _ _ _ _ _, HF.out⟩
          · have hbf : insB (bs s) i = false := by simpa using hb
            cases hwd : wordS (bs s) (bs s).length i [] with
            | inr k =>
              have hv := row_word_no hu.out (by omega) hlb hps hbf hwd
              subst hv
              have INS : Hid (∀ X, RdS (w.heap.size + 3) s (.slice a m c) i X → Calls Tryd.prog 18 #[.pointer (some ⟨w.heap.size + 1 + 1 + 1, 0, none⟩)] X fun e w' => e = .panicked (thrownT k 200) ∧ Mv (w.heap.size + 3) X w') := zH (fun X hX => t_word (R := .inr k) (by rw [← bs_len]; exact hwd) hX)
              by_cases c1 : (bs s)[i]? = some 123
              · have c2 : (bs s)[i + 1]? = some 123 := by
                  rw [insB, c1] at hbf
                  simpa using hbf
                go_upto_region 12 with (first
                  | (have _t := tokA; go_at_call 15; (with_reducible refine (NX.out _ true hp.out.rd (by simpa using c1)).mono ?_); rintro e w2 ⟨rfl, nq, rfl⟩; have PQ := zH (hp.out.quiet (X' := wr.drewN nq) ⟨nq, rfl⟩); clear tokA _t)
                  | (have _t := tokB; go_at_call 15; (with_reducible refine (NX2.out _ true PQ.out.rd (by simp [c1, c2])).mono ?_); rintro e w2 ⟨rfl, nq2, rfl⟩; clear tokB _t))
                generalize hwa : World.drewN _ _ = wa
                have PA : Hid (PsT w s i a m c ps wa) := zH (by rw [← hwa]; exact hp.out.quiet ⟨_, rfl⟩)
                clear hwa NX NX2 f0 f1 f2 f3 f4 f5
                obtain ⟨f0, f1, f2, f3, f4, f5⟩ := PA.out.rd.facts
                refine wp_region_held_drew (S := fun w' => w'.cell? ⟨w.heap.size + 1 + 1 + 1, 2, none⟩ = some (.slice a m c)) (by kernel_rfl) f2 (fun hHeld => ?_)
                refine wpAnyH_take (i := 0) (v := ?_) rfl (by kernel_rfl) (by kernel_rfl) (by kernel_rfl) (fun _ b _ h => leaves_eq (res_put (k := 59) (by decide) b.tmps _) _ _ _ h) (Or.inl ⟨by rfl, ?_⟩) (by assumption) ?_
                rotate_left
                · intro w hSw; (try dsimp only at hSw); go_simp; with_reducible rfl
                try simp only [Act.put, List.setIfInBounds_toArray, List.set_cons_zero, List.set_cons_succ]
                refine wpAnyH_take (i := 1) (v := ?_) rfl (by kernel_rfl) (by kernel_rfl) (by kernel_rfl) (fun _ b _ h => leaves_eq (res_put (k := 60) (by decide) b.tmps _) _ _ _ h) (Or.inl ⟨by rfl, ?_⟩) (by assumption) ?_
                rotate_left
                · intro w hSw; (try dsimp only at hSw); go_simp; with_reducible rfl
                try simp only [Act.put, List.setIfInBounds_toArray, List.set_cons_zero, List.set_cons_succ]
                refine wpAnyH_take (i := 2) (v := ?_) rfl (by kernel_rfl) (by kernel_rfl) (by kernel_rfl) (fun _ b _ h => leaves_eq (res_put (k := 61) (by decide) b.tmps _) _ _ _ h) (Or.inl ⟨by rfl, ?_⟩) (by assumption) ?_
                rotate_left
                · intro w hSw; (try dsimp only at hSw); go_simp; with_reducible rfl
                try simp only [Act.put, List.setIfInBounds_toArray, List.set_cons_zero, List.set_cons_succ]
                refine wpAnyH_take (i := 3) (v := ?_) rfl (by kernel_rfl) (by kernel_rfl) (by kernel_rfl) (fun _ b _ h => leaves_eq (res_put (k := 62) (by decide) b.tmps _) _ _ _ h) (Or.inl ⟨by rfl, ?_⟩) (by assumption) ?_
                rotate_left
                · intro w hSw; (try dsimp only at hSw); go_simp; with_reducible rfl
                try simp only [Act.put, List.setIfInBounds_toArray, List.set_cons_zero, List.set_cons_succ]
                refine wpAnyH_take (i := 4) (v := ?_) rfl (by kernel_rfl) (by kernel_rfl) (by kernel_rfl) (fun _ b _ h => leaves_eq (res_put (k := 63) (by decide) b.tmps _) _ _ _ h) (Or.inl ⟨by rfl, ?_⟩) (by assumption) ?_
                rotate_left
                · intro w hSw; (try dsimp only at hSw); go_simp; with_reducible rfl
                try simp only [Act.put, List.setIfInBounds_toArray, List.set_cons_zero, List.set_cons_succ]
                refine wpAnyH_take (i := 5) (v := ?_) rfl (by kernel_rfl) (by kernel_rfl) (by kernel_rfl) (fun _ b _ h => leaves_eq (res_put (k := 64) (by decide) b.tmps _) _ _ _ h) (Or.inl ⟨by rfl, ?_⟩) (by assumption) ?_
                rotate_left
                · intro w hSw; (try dsimp only at hSw); go_simp; with_reducible rfl
                try simp only [Act.put, List.setIfInBounds_toArray, List.set_cons_zero, List.set_cons_succ]
                refine wpAnyH_ready (rs := [6]) (by kernel_rfl) (by simp) ?_
                refine AllReadyH.cons rfl (fun K hK => ?_) AllReadyH.nil
                go_simp
                go_wp2_with (go_at_call 18; (refine (INS.out _ (PA.out.rd.quiet ⟨1, rfl⟩)).mono ?_); rintro e w1 ⟨rfl, h1⟩; have M1 : Hid (Mv (w.heap.size + 3) wa w1) := zH ((Mv.quiet ⟨1, rfl⟩).trans h1); clear h1)
                refine leaves_cons (f := 14) (args := #[.pointer (some ⟨w.heap.size, 0, none⟩), .pointer (some ⟨w.heap.size + 1, 0, none⟩), .pointer (some ⟨w.heap.size + 1 + 1, 0, none⟩)]) (by simp) (by simp [go_sem]) ?_
                refine (catch_wrongT w.heap.size (k : Int) 200 _ _ [] _ _ ⟨_, _, _, rfl⟩ (PA.out.bx.below M1.out.low (by omega))).mono ?_
                rintro e u' wf ⟨rfl, rfl, hBf, hKf⟩
                obtain ⟨c0, c1, c2, z0, z1, z2, lb⟩ := hKf.cells
                have c2' : wf.cell? ⟨w.heap.size + 1 + 1, 0, none⟩ = some (.int .i64 200) := c2
                have HF : Hid (Below w.heap.size w wf) := zH ((PA.out.bel.trans (M1.out.low.mono (by omega))).trans hBf)
                clear c2 hBf hKf z0 z1 z2 lb
                simp [Leaves, settle, results, Tryd.results7, go_sem, c0, c1, c2']
                exact ⟨_, rfl, own1_nil _ _ _ _ _, HF.out⟩
              · go_upto_region 12 with (first
                  | (have _t := tokA; go_at_call 15; (with_reducible refine (NX.out _ false hp.out.rd (by simpa using c1)).mono ?_); rintro e w2 ⟨rfl, nq, rfl⟩; have PQ := zH (hp.out.quiet (X' := wr.drewN nq) ⟨nq, rfl⟩); clear tokA _t))
                generalize hwa : World.drewN _ _ = wa
                have PA : Hid (PsT w s i a m c ps wa) := zH (by rw [← hwa]; exact hp.out.quiet ⟨_, rfl⟩)
                clear hwa NX NX2 f0 f1 f2 f3 f4 f5
                obtain ⟨f0, f1, f2, f3, f4, f5⟩ := PA.out.rd.facts
                refine wp_region_held_drew (S := fun w' => w'.cell? ⟨w.heap.size + 1 + 1 + 1, 2, none⟩ = some (.slice a m c)) (by kernel_rfl) f2 (fun hHeld => ?_)
                refine wpAnyH_take (i := 0) (v := ?_) rfl (by kernel_rfl) (by kernel_rfl) (by kernel_rfl) (fun _ b _ h => leaves_eq (res_put (k := 59) (by decide) b.tmps _) _ _ _ h) (Or.inl ⟨by rfl, ?_⟩) (by assumption) ?_
                rotate_left
                · intro w hSw; (try dsimp only at hSw); go_simp; with_reducible rfl
                try simp only [Act.put, List.setIfInBounds_toArray, List.set_cons_zero, List.set_cons_succ]
                refine wpAnyH_take (i := 1) (v := ?_) rfl (by kernel_rfl) (by kernel_rfl) (by kernel_rfl) (fun _ b _ h => leaves_eq (res_put (k := 60) (by decide) b.tmps _) _ _ _ h) (Or.inl ⟨by rfl, ?_⟩) (by assumption) ?_
                rotate_left
                · intro w hSw; (try dsimp only at hSw); go_simp; with_reducible rfl
                try simp only [Act.put, List.setIfInBounds_toArray, List.set_cons_zero, List.set_cons_succ]
                refine wpAnyH_take (i := 2) (v := ?_) rfl (by kernel_rfl) (by kernel_rfl) (by kernel_rfl) (fun _ b _ h => leaves_eq (res_put (k := 61) (by decide) b.tmps _) _ _ _ h) (Or.inl ⟨by rfl, ?_⟩) (by assumption) ?_
                rotate_left
                · intro w hSw; (try dsimp only at hSw); go_simp; with_reducible rfl
                try simp only [Act.put, List.setIfInBounds_toArray, List.set_cons_zero, List.set_cons_succ]
                refine wpAnyH_take (i := 3) (v := ?_) rfl (by kernel_rfl) (by kernel_rfl) (by kernel_rfl) (fun _ b _ h => leaves_eq (res_put (k := 62) (by decide) b.tmps _) _ _ _ h) (Or.inl ⟨by rfl, ?_⟩) (by assumption) ?_
                rotate_left
                · intro w hSw; (try dsimp only at hSw); go_simp; with_reducible rfl
                try simp only [Act.put, List.setIfInBounds_toArray, List.set_cons_zero, List.set_cons_succ]
                refine wpAnyH_take (i := 4) (v := ?_) rfl (by kernel_rfl) (by kernel_rfl) (by kernel_rfl) (fun _ b _ h => leaves_eq (res_put (k := 63) (by decide) b.tmps _) _ _ _ h) (Or.inl ⟨by rfl, ?_⟩) (by assumption) ?_
                rotate_left
                · intro w hSw; (try dsimp only at hSw); go_simp; with_reducible rfl
                try simp only [Act.put, List.setIfInBounds_toArray, List.set_cons_zero, List.set_cons_succ]
                refine wpAnyH_take (i := 5) (v := ?_) rfl (by kernel_rfl) (by kernel_rfl) (by kernel_rfl) (fun _ b _ h => leaves_eq (res_put (k := 64) (by decide) b.tmps _) _ _ _ h) (Or.inl ⟨by rfl, ?_⟩) (by assumption) ?_
                rotate_left
                · intro w hSw; (try dsimp only at hSw); go_simp; with_reducible rfl
                try simp only [Act.put, List.setIfInBounds_toArray, List.set_cons_zero, List.set_cons_succ]
                refine wpAnyH_ready (rs := [6]) (by kernel_rfl) (by simp) ?_
                refine AllReadyH.cons rfl (fun K hK => ?_) AllReadyH.nil
                go_simp
                go_wp2_with (go_at_call 18; (refine (INS.out _ (PA.out.rd.quiet ⟨1, rfl⟩)).mono ?_); rintro e w1 ⟨rfl, h1⟩; have M1 : Hid (Mv (w.heap.size + 3) wa w1) := zH ((Mv.quiet ⟨1, rfl⟩).trans h1); clear h1)
                refine leaves_cons (f := 14) (args := #[.pointer (some ⟨w.heap.size, 0, none⟩), .pointer (some ⟨w.heap.size + 1, 0, none⟩), .pointer (some ⟨w.heap.size + 1 + 1, 0, none⟩)]) (by simp) (by simp [go_sem]) ?_
                refine (catch_wrongT w.heap.size (k : Int) 200 _ _ [] _ _ ⟨_, _, _, rfl⟩ (PA.out.bx.below M1.out.low (by omega))).mono ?_
                rintro e u' wf ⟨rfl, rfl, hBf, hKf⟩
                obtain ⟨c0, c1, c2, z0, z1, z2, lb⟩ := hKf.cells
                have c2' : wf.cell? ⟨w.heap.size + 1 + 1, 0, none⟩ = some (.int .i64 200) := c2
                have HF : Hid (Below w.heap.size w wf) := zH ((PA.out.bel.trans (M1.out.low.mono (by omega))).trans hBf)
                clear c2 hBf hKf z0 z1 z2 lb
                simp [Leaves, settle, results, Tryd.results7, go_sem, c0, c1, c2']
                exact ⟨_, rfl, own1_nil _ _ _ _ _, HF.out⟩
            | inl x =>
              obtain ⟨wd, k⟩ := x
              have hwi := word_in (bs_bytes s) (bs s).length i [] (Nat.le_of_lt hlb) bytes_nil
              rw [hwd] at hwi
              obtain ⟨wb1, wb2, wb3, wb4⟩ := hwi
              have hk1 := word_on (bs_bytes s) hlb hbf hwd
              rw [Hln.out] at wb3
              have POK : Hid (Pc.ok ⟨1, wd, []⟩) := zH ⟨wb1, bytes_nil, by rw [List.length_nil] at wb4; show wd.length ≤ 4096; omega, by simp, rfl⟩
              have hv := row_word hu.out (by omega) hlb hps hbf hwd
              have HV := zH hv
              have INS : Hid (∀ X, RdS (w.heap.size + 3) s (.slice a m c) i X → Calls Tryd.prog 18 #[.pointer (some ⟨w.heap.size + 1 + 1 + 1, 0, none⟩)] X fun e w' => e = .returned (.string (txt wd)) ∧ Mv (w.heap.size + 3) X w' ∧ RdS (w.heap.size + 3) s (.slice a m c) k w') := zH (fun X hX => t_word (R := .inl (wd, k)) (by rw [← bs_len]; exact hwd) hX)
              clear hv wb1 wb2 wb4 hwd
              by_cases c1 : (bs s)[i]? = some 123
              · have c2 : (bs s)[i + 1]? = some 123 := by
                  rw [insB, c1] at hbf
                  simpa using hbf
                go_upto_region 12 with (first
                  | (have _t := tokA; go_at_call 15; (with_reducible refine (NX.out _ true hp.out.rd (by simpa using c1)).mono ?_); rintro e w2 ⟨rfl, nq, rfl⟩; have PQ := zH (hp.out.quiet (X' := wr.drewN nq) ⟨nq, rfl⟩); clear tokA _t)
                  | (have _t := tokB; go_at_call 15; (with_reducible refine (NX2.out _ true PQ.out.rd (by simp [c1, c2])).mono ?_); rintro e w2 ⟨rfl, nq2, rfl⟩; clear tokB _t))
                generalize hwa : World.drewN _ _ = wa
                have PA : Hid (PsT w s i a m c ps wa) := zH (by rw [← hwa]; exact hp.out.quiet ⟨_, rfl⟩)
                clear hwa NX NX2 f0 f1 f2 f3 f4 f5
                obtain ⟨f0, f1, f2, f3, f4, f5⟩ := PA.out.rd.facts
                have LQA : w.heap.size + 3 < wa.heap.size := f5
                refine wp_np ?_
                go_region_law (first
                  | (go_simp; go_at_call 18; go_must (refine (INS.out _ (PA.out.rd.quiet ⟨1, rfl⟩)).mono ?_); rintro e w1 ⟨rfl, h1, h2⟩; go_must (have P1 := zH ((PA.out.quiet ⟨1, rfl⟩).mv h1 h2)); clear h1 h2; go_must (obtain ⟨g0, g1, g2, g3, g4, g5⟩ := P1.out.rd.facts))
                  | (skip
                     go_must (refine step_append_list rfl (.tmp 63) (.tmp 67) _ (by rfl) (w.heap.size + 4) (w1.heap.size + 1) 30 jp _ 3 40 Tryd.underlying22 I.out.1 I.out.2.1 I.out.2.2.1 I.out.2.2.2 rfl (by omega) (R := Pc.Is) (l := ps) (m := [⟨1, wd, []⟩]) (.slice a m c) (by rfl) (by exact P1.out.own.alloc (.cells #[.int .i64 1, .string (txt wd), .string ⟨#[]⟩] 30)) (some ⟨w1.heap.size, 0, none⟩) 1 1 (by rfl) (by exact SlR.new1 (w := w1) (e := 30) (g := w1.heap.size) rfl (x := [.int .i64 1, .string (txt wd), .string ⟨#[]⟩]) rfl (R := Pc.Is) (y := ⟨1, wd, []⟩) ⟨rfl, POK.out⟩) (m + 1) (by rw [P1.out.len]) Pc.one (by unfold maxLen; have := P1.out.len; omega) (by have := P1.out.len; omega) (by rw [World.size_alloc]; have := P1.out.rd.box.lt; omega) ?_)
                     intro a5 c5 w5 hown hgr
                     go_must (have K5 := zH (P1.out.push (k := k) (.cells #[.int .i64 1, .string (txt wd), .string ⟨#[]⟩] 30) hown hgr (by rw [List.length_append, P1.out.len]; rfl)))
                     go_must (obtain ⟨m0, m1, m2, m3, m4, m5⟩ := K5.out.2.1.facts)
                     clear hown hgr)
                  | fail)
                all_goals
                  simp only [noP]
                  generalize hwb : World.setCell _ _ _ = wb
                  have PB : Hid (PsT w s k a5 (m + 1) c5 (ps ++ [(⟨1, wd, []⟩ : Pc)]) wb) := zH (by rw [← hwb]; exact PsT.store K5.out)
                  clear hwb K5 m0 m1 m2 m3 m4 m5 g0 g1 g2 g3 g4 g5 f0 f1 f2 f3 f4 f5
                  go_wp2_with fail
                  go_roundg (gk - 1)
                  case measure => omega
                  case rel => exact ⟨k, a5, m + 1, c5, ps ++ [(⟨1, wd, []⟩ : Pc)], wb3, by omega, hm1, HV, PB⟩
              · go_upto_region 12 with (first
                  | (have _t := tokA; go_at_call 15; (with_reducible refine (NX.out _ false hp.out.rd (by simpa using c1)).mono ?_); rintro e w2 ⟨rfl, nq, rfl⟩; have PQ := zH (hp.out.quiet (X' := wr.drewN nq) ⟨nq, rfl⟩); clear tokA _t))
                generalize hwa : World.drewN _ _ = wa
                have PA : Hid (PsT w s i a m c ps wa) := zH (by rw [← hwa]; exact hp.out.quiet ⟨_, rfl⟩)
                clear hwa NX NX2 f0 f1 f2 f3 f4 f5
                obtain ⟨f0, f1, f2, f3, f4, f5⟩ := PA.out.rd.facts
                have LQA : w.heap.size + 3 < wa.heap.size := f5
                refine wp_np ?_
                go_region_law (first
                  | (go_simp; go_at_call 18; go_must (refine (INS.out _ (PA.out.rd.quiet ⟨1, rfl⟩)).mono ?_); rintro e w1 ⟨rfl, h1, h2⟩; go_must (have P1 := zH ((PA.out.quiet ⟨1, rfl⟩).mv h1 h2)); clear h1 h2; go_must (obtain ⟨g0, g1, g2, g3, g4, g5⟩ := P1.out.rd.facts))
                  | (skip
                     go_must (refine step_append_list rfl (.tmp 63) (.tmp 67) _ (by rfl) (w.heap.size + 4) (w1.heap.size + 1) 30 jp _ 3 40 Tryd.underlying22 I.out.1 I.out.2.1 I.out.2.2.1 I.out.2.2.2 rfl (by omega) (R := Pc.Is) (l := ps) (m := [⟨1, wd, []⟩]) (.slice a m c) (by rfl) (by exact P1.out.own.alloc (.cells #[.int .i64 1, .string (txt wd), .string ⟨#[]⟩] 30)) (some ⟨w1.heap.size, 0, none⟩) 1 1 (by rfl) (by exact SlR.new1 (w := w1) (e := 30) (g := w1.heap.size) rfl (x := [.int .i64 1, .string (txt wd), .string ⟨#[]⟩]) rfl (R := Pc.Is) (y := ⟨1, wd, []⟩) ⟨rfl, POK.out⟩) (m + 1) (by rw [P1.out.len]) Pc.one (by unfold maxLen; have := P1.out.len; omega) (by have := P1.out.len; omega) (by rw [World.size_alloc]; have := P1.out.rd.box.lt; omega) ?_)
                     intro a5 c5 w5 hown hgr
                     go_must (have K5 := zH (P1.out.push (k := k) (.cells #[.int .i64 1, .string (txt wd), .string ⟨#[]⟩] 30) hown hgr (by rw [List.length_append, P1.out.len]; rfl)))
                     go_must (obtain ⟨m0, m1, m2, m3, m4, m5⟩ := K5.out.2.1.facts)
                     clear hown hgr)
                  | fail)
                all_goals
                  simp only [noP]
                  generalize hwb : World.setCell _ _ _ = wb
                  have PB : Hid (PsT w s k a5 (m + 1) c5 (ps ++ [(⟨1, wd, []⟩ : Pc)]) wb) := zH (by rw [← hwb]; exact PsT.store K5.out)
                  clear hwb K5 m0 m1 m2 m3 m4 m5 g0 g1 g2 g3 g4 g5 f0 f1 f2 f3 f4 f5
                  go_wp2_with fail
                  go_roundg (gk - 1)
                  case measure => omega
                  case rel => exact ⟨k, a5, m + 1, c5, ps ++ [(⟨1, wd, []⟩ : Pc)], wb3, by omega, hm1, HV, PB⟩
      · have d3 : decide (i < n) = false := by simpa using hlt
        have hv := row_end hu.out (by rw [Hln.out]; omega)
        subst hv
        obtain ⟨c0, c1, c2, z0, z1, z2, lb⟩ := hp.out.bx.cells
        have c2' : wr.cell? ⟨w.heap.size + 1 + 1, 0, none⟩ = some (.int .i64 0) := c2
        have z2' : wr.frozen? ⟨w.heap.size + 1 + 1, 0, none⟩ = false := z2
        have lb' : w.heap.size + 1 + 1 < wr.heap.size := lb
        have lb1 : w.heap.size + 1 < wr.heap.size := by omega
        have lb0 : w.heap.size < wr.heap.size := by omega
        clear c2 z2 lb
        go_wp2_with fail
        generalize hwz : World.setCell _ _ _ = wz
        have hz : BxT wz w.heap.size (.slice a m c) 0 0 ∧ Below w.heap.size wr wz := by rw [← hwz]; exact hp.out.bx.set (.slice a m c) 0 0
        have oz : Own1 wz (w.heap.size + 4) 30 3 Pc.Is (.slice a m c) ps := by rw [← hwz]; exact ((hp.out.own.setFar (by show w.heap.size < _; omega) _).setFar (by show w.heap.size + 1 < _; omega) _).setFar (by show w.heap.size + 1 + 1 < _; omega) _
        clear c0 c1 c2' z0 z1 z2' lb' lb1 lb0 f0 f1 f2 f3 f4 f5 hwz
        obtain ⟨c0, c1, c2, z0, z1, z2, lb⟩ := hz.1.cells
        have c2' : wz.cell? ⟨w.heap.size + 1 + 1, 0, none⟩ = some (.int .i64 0) := c2
        clear c2
        refine leaves_cons (f := 14) (args := #[.pointer (some ⟨w.heap.size, 0, none⟩), .pointer (some ⟨w.heap.size + 1, 0, none⟩), .pointer (some ⟨w.heap.size + 1 + 1, 0, none⟩)]) (by simp) (by simp [go_sem]) ?_
        refine (catch_idleT _ _ _ _).mono ?_
        rintro e u' wf ⟨rfl, rfl, rfl⟩
        simp [Leaves, settle, results, Tryd.results7, go_sem, c0, c1, c2']
        exact ⟨_, rfl, oz.mono (by omega), hp.out.bel.trans hz.2⟩
end Go.Proofs.YtpkggobhhieeoaaDoor
