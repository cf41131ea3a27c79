/- - - - - - - - -/
import Derived.Test.YtdkoafmgenbkbaaGreatDoorKM3
import Derived.Test.YtdkoafmgenbkbaaGreatDoorKM4
set_option maxRecDepth 100000
set_option maxHeartbeats 32000000
set_option linter.unusedSimpArgs false
set_option linter.unusedVariables false
namespace Go.Proofs.YtdkoafmgenbkbaaGreatDoor
open Go.RowKit
theorem unq_len : ∀ (f i : Nat) (l o s : List Nat) (k e : Nat), unq l f i o = (s, k, e) → e = 0 → Bytes l → s.length + i ≤ o.length + k
  | 0, i, l, o, s, k, e, h, he, _ => by simp [unq] at h; omega
  | f + 1, i, l, o, s, k, e, h, he, hl => by
    rw [unq] at h
    split at h
    · rename_i hi
      simp at h
      obtain ⟨rfl, rfl, _⟩ := h
      omega
    · rename_i hi
      split at h
      · rename_i c n m hone
        have hd : Bytes (l.drop i) := fun x hx => hl x (List.mem_of_mem_drop hx)
        obtain ⟨c1, c2, _⟩ := one_some hd (by rw [List.head?_drop]; exact hi) hone
        have := (form_len c).1
        have := unq_len f _ l _ s k e h he hl
        simp at this
        omega
      · simp at h; omega
theorem step_len8 {r : List Nat} {k n : Nat} {s : List Nat} {v : Int} (h : stepP r = (some (k, s, v), n)) : s.length ≤ r.length := by
  rw [← step_same] at h
  unfold stepR at h
  generalize lenFrom r r.length 0 = m at h
  have hm : (r.take m).length ≤ r.length := by rw [List.length_take]; omega
  cases hw : wholeN (r.take m) with
  | none => rw [hw] at h; simp at h
  | some t =>
    obtain ⟨k', s', v'⟩ := t
    rw [hw] at h
    simp only at h
    split at h
    · simp at h
    · simp only [Prod.mk.injEq, Option.some.injEq] at h
      obtain ⟨⟨rfl, rfl, rfl⟩, rfl⟩ := h
      unfold wholeN at hw
      split at hw
      · simp only [Option.some.injEq, Prod.mk.injEq] at hw
        obtain ⟨_, rfl, _⟩ := hw
        simp
      · split at hw
        · simp only [Option.some.injEq, Prod.mk.injEq] at hw
          obtain ⟨_, rfl, _⟩ := hw
          exact hm
        · split at hw
          · simp only [Option.some.injEq, Prod.mk.injEq] at hw
            obtain ⟨_, rfl, _⟩ := hw
            exact hm
          · split at hw
            · simp only [Option.some.injEq, Prod.mk.injEq] at hw
              obtain ⟨_, rfl, _⟩ := hw
              exact hm
            · cases hw
def Tok.cells (t : Tok) : List Value := [.int .i64 t.kind, .string (txt t.text), .int .i64 t.num, .int .i64 t.place]
def Tok.ok (t : Tok) : Prop := Bytes t.text ∧ t.text.length ≤ maxLen ∧ (Lit.int .i64 t.kind).wf = true ∧ (Lit.int .i64 t.num).wf = true ∧ (Lit.int .i64 t.place).wf = true
def Tok.Is (x : List Value) (t : Tok) : Prop := x = t.cells ∧ t.ok
theorem Tok.Is.one (x : List Value) (t : Tok) (h : Tok.Is x t) : ∀ u ∈ x, u.oneCell' = true := by
  intro u hu
  rw [h.1] at hu
  simp [Tok.cells] at hu
  rcases hu with rfl | rfl | rfl | rfl <;> rfl
theorem info_tok : (Tryz.prog.info? 127).map (fun i => (i.zero, i.size, i.bytes)) = some (some (.agg #[.int .i64 0, .string .empty, .int .i64 0, .int .i64 0]), 4, 40) := by kernel_rfl
theorem wf_in {v : Int} (h1 : -9223372036854775808 ≤ v) (h2 : v ≤ 9223372036854775807) : (Lit.int .i64 v).wf = true := by
  simp [Lit.wf, IntKind.min, IntKind.max, IntKind.signed, IntKind.bits]
  omega
theorem Tok.mk_ok {k i : Nat} {s : List Nat} {v : Int} (h1 : Bytes s) (h2 : s.length ≤ 4096) (h3 : k < 6) (h4 : i ≤ 4096) (h5 : -9223372036854775808 ≤ v) (h6 : v ≤ 9223372036854775807) : Tok.ok ⟨k, s, v, i⟩ :=
  ⟨h1, by show s.length ≤ maxLen; unfold maxLen; omega, wf_in (by show (-9223372036854775808 : Int) ≤ (k : Int); omega) (by show (k : Int) ≤ 9223372036854775807; omega), wf_in h5 h6, wf_in (by show (-9223372036854775808 : Int) ≤ (i : Int); omega) (by show (i : Int) ≤ 9223372036854775807; omega)⟩
def ScanIs (w : World) (R : List Tok × Nat × Nat) (e : Ending) (w' : World) : Prop :=
  ∃ (a : Option Addr) (n c : Nat), e = .returned (.tuple #[.slice a n c, .int .i64 (R.2.1 : Int), .int .i64 (R.2.2 : Int)]) ∧ Own1 w' w.heap.size 127 4 Tok.Is (.slice a n c) R.1 ∧ Below w.heap.size w w'
theorem ScanIs.no {w w' : World} {i r : Nat} {e : Ending} (he : e = .returned (.tuple #[.slice none 0 0, .int .i64 (i : Int), .int .i64 (r : Int)])) (hb : Below w.heap.size w w') {R : List Tok × Nat × Nat} (hR : R = ([], i, r)) : ScanIs w R e w' := by
  subst hR
  exact ⟨Option.none, 0, 0, he, ⟨[], World.ownsRow_nil _ _ _ _, FlatR.nil_⟩, hb⟩
def atCell (w : World) (g : Nat) : Nat := match w.cell? ⟨g, 0, none⟩ with
  | some (.int _ i) => i.toNat
  | _ => 0
theorem atCell_of {w : World} {g t : Nat} {k : Nat} (h : Blk w g t #[.int .i64 (k : Int)]) : atCell w g = k := by
  unfold atCell
  rw [h.cell (i := 0) rfl]
  exact Int.toNat_natCast k
def ScanSt (w : World) (s : ByteArray) (k : Nat) (v : Value) (toks : List Tok) (wr : World) : Prop :=
  Blk wr w.heap.size 9 #[.string s] ∧ Blk wr (w.heap.size + 1) 3 #[.int .i64 (k : Int)] ∧ Own1 wr (w.heap.size + 1 + 1) 127 4 Tok.Is v toks ∧ Below w.heap.size w wr
theorem ScanSt.keep {w : World} {s : ByteArray} {k : Nat} {v : Value} {toks : List Tok} {wr W : World} (h : ScanSt w s k v toks wr) (hb : Below wr.heap.size wr W) : ScanSt w s k v toks W :=
  ⟨h.1.below hb h.1.lt, h.2.1.below hb h.2.1.lt, h.2.2.1.below hb zL, h.2.2.2.trans (hb.mono (Nat.le_of_lt h.1.lt))⟩
theorem ScanSt.at_ {w : World} {s : ByteArray} {k : Nat} {v : Value} {toks : List Tok} {wr : World} (h : ScanSt w s k v toks wr) (k' : Nat) {u : Value} (hu : u = .int .i64 (k' : Int)) : ScanSt w s k' v toks (wr.setCell ⟨w.heap.size + 1, 0, none⟩ u) := by
  subst hu
  exact ⟨h.1.far (by simp) _, h.2.1.set_ 0 _, h.2.2.1.setFar (by show w.heap.size + 1 < _; omega) _, h.2.2.2.setCell (by show w.heap.size ≤ w.heap.size + 1; omega) _⟩
theorem ScanSt.grown {w : World} {s : ByteArray} {k : Nat} {v v' : Value} {toks toks' : List Tok} {W w4 : World} (h : ScanSt w s k v toks W) (hg : W.grownBy w4 v.ownBlock) (h' : Own1 w4 (w.heap.size + 1 + 1) 127 4 Tok.Is v' toks') : ScanSt w s k v' toks' w4 := by
  have hb := h.2.2.1.block
  refine ⟨h.1.grown hg (fun e => ?_), h.2.1.grown hg (fun e => ?_), h', h.2.2.2.grown hg (Nat.le_trans zL (by have := h.1.lt; omega)) (fun g hg' => by have := (hb g hg').1; omega)⟩
  · have := (hb _ e.symm).1; omega
  · have := (hb _ e.symm).1; omega
theorem ScanSt.cell_at {w : World} {s : ByteArray} {k : Nat} {v : Value} {toks : List Tok} {wr : World} (h : ScanSt w s k v toks wr) : atCell wr (w.heap.size + 1) = k := atCell_of h.2.1
def TokSt (wr W : World) (cs : Array Value) : Prop := Below wr.heap.size wr W ∧ Blk W wr.heap.size 127 cs
theorem TokSt.new (wr : World) (cs : Array Value) : TokSt wr (wr.alloc (.cells cs 127)) cs := ⟨zB.alloc zL _, Blk.new wr _ _⟩
theorem TokSt.set {wr W : World} {cs : Array Value} (h : TokSt wr W cs) (i : Nat) (u : Value) : TokSt wr (W.setCell ⟨wr.heap.size, i, none⟩ u) (cs.setIfInBounds i u) := ⟨h.1.setCell zL _, h.2.set_ i u⟩
theorem TokSt.call {wr W w1 : World} {cs : Array Value} (h : TokSt wr W cs) (hb : Below W.heap.size W w1) : TokSt wr w1 cs := ⟨h.1.trans (hb.mono h.1.size), h.2.below hb h.2.lt⟩
theorem TokSt.quiet {wr W w1 : World} {cs : Array Value} (h : TokSt wr W cs) (hb : Quiet W w1) : TokSt wr w1 cs := h.call (hb.below _)
theorem TokSt.alloc {wr W : World} {cs : Array Value} (h : TokSt wr W cs) (o : Obj) : TokSt wr (W.alloc o) cs := h.call (zB.alloc zL _)
theorem TokSt.drew {wr W : World} {cs : Array Value} (h : TokSt wr W cs) : TokSt wr W.drew cs := ⟨⟨h.1.os, h.1.tape, h.1.output, h.1.size, h.1.block⟩, h.2⟩
theorem SlR.drew_ {α : Type} {w : World} {B size : Nat} {R : List Value → α → Prop} {v : Value} {l : List α} (h : SlR w B size R v l) : SlR w.drew B size R v l := h
theorem TokSt.facts {w : World} {s : ByteArray} {k : Nat} {v : Value} {toks : List Tok} {wr W : World} {cs : Array Value} (h : TokSt wr W cs) (hs : ScanSt w s k v toks wr) :
    W.cell? ⟨w.heap.size, 0, none⟩ = some (.string s) ∧ W.cell? ⟨w.heap.size + 1, 0, none⟩ = some (.int .i64 (k : Int)) ∧ W.frozen? ⟨w.heap.size + 1, 0, none⟩ = false ∧ W.frozen? ⟨wr.heap.size, 0, none⟩ = false ∧ W.frozen? ⟨wr.heap.size, 1, none⟩ = false ∧ W.frozen? ⟨wr.heap.size, 2, none⟩ = false ∧ w.heap.size + 1 < W.heap.size ∧ wr.heap.size < W.heap.size :=
  have hk := hs.keep h.1
  ⟨hk.1.cell (i := 0) rfl, hk.2.1.cell (i := 0) rfl, hk.2.1.frozen 0, h.2.frozen 0, h.2.frozen 1, h.2.frozen 2, hk.2.1.lt, h.2.lt⟩
theorem scan_any (s : ByteArray) (hs : s.size ≤ maxLen) (w : World) (hm : Marks w) : Calls Tryz.prog 49 #[.string s] w (ScanIs w (scanN (bs s))) := by
  unfold maxLen at hs
  obtain ⟨j, hi, hz, hsz, hby⟩ := info_parts info_tok
  have I := zH (And.intro hi (And.intro hz (And.intro hsz hby)))
  clear hi hz hsz hby
  obtain ⟨n, hn⟩ : ∃ n, s.size = n := ⟨_, rfl⟩
  have hln : (bs s).length = n := by rw [bs_len, hn]
  rw [hn] at hs
  have hn' : (s.size : Int) = (n : Int) := by rw [hn]
  have Hn := zH (And.intro hn hln)
  have Hm := zH hm
  clear hm
  by_cases hbig : 4096 < n
  · have hv : scanN (bs s) = ([], 0, 3) := by unfold scanN; rw [hln, if_pos hbig]
    have HV := zH hv
    clear hv hln hn
    go_enter Tryz.func49, Tryz.ntmps49
    go_wp2_with fail
    go_ret3
    exact ScanIs.no rfl (zB.alloc zL _) HV.out
  obtain ⟨R, hR⟩ : ∃ R, scanT (bs s) (n + 1) 0 [] = R := ⟨_, rfl⟩
  have hv : scanN (bs s) = R := by unfold scanN; rw [hln, if_neg hbig, hR]
  have HR := zH (And.intro hv hR)
  have hsmall : n ≤ 4096 := by omega
  have hdbig : decide (4096 < (n : Int)) = false := by simp; omega
  clear hv hR hln hn
  go_enter Tryz.func49, Tryz.ntmps49
  go_wp2_with fail
  go_loopw [5] (fun out wr => ∃ (k f a : Nat) (oa : Option Addr) (on oc : Nat) (toks : List Tok), k ≤ n ∧ n < f + k ∧ a ≤ k ∧ out = .slice oa on oc ∧ Hid (scanT (bs s) f k toks = R) ∧ Hid (ScanSt w s k (.slice oa on oc) toks wr ∧ toks.length = a)) (fun _ wr => n - atCell wr (w.heap.size + 1))
  case atStart =>
    have hB0 : Blk (w.alloc (.cells #[.string s] 9)) w.heap.size 9 #[.string s] := Blk.new w _ _
    have hB1 := Blk.new_ (w := w.alloc (.cells #[.string s] 9)) (g := w.heap.size + 1) (by rw [World.size_alloc]) 3 #[.int .i64 0]
    exact ⟨0, n + 1, 0, none, 0, 0, [], by omega, by omega, by omega, rfl, HR.out.2, ⟨hB0.alloc _, hB1, ⟨[], World.ownsRow_nil _ _ _ _, FlatR.nil_⟩, ((Below.refl w.heap.size w).alloc zL _).alloc (below2 zL) _⟩, rfl⟩
  case round =>
    obtain ⟨k, f, a, oa, on, oc, toks, hk, hf, ha, rfl, hu, hB⟩ := hrel
    have b1 : (0 : Int) ≤ (k : Int) := Int.natCast_nonneg _
    have hC0 := hB.out.1.1.cell (i := 0) rfl
    have hC1 := hB.out.1.2.1.cell (i := 0) rfl
    have hF1 := hB.out.1.2.1.frozen 0
    have hlt0 : w.heap.size < wr.heap.size := hB.out.1.1.lt
    have hlt1 : w.heap.size + 1 < wr.heap.size := hB.out.1.2.1.lt
    have hat := hB.out.1.cell_at
    have Hat := zH hat
    clear hat
    by_cases hlt : k < n
    · obtain ⟨c, hc, c256⟩ := get_bs (s := s) (k := k) (by rw [Hn.out.1]; exact hlt)
      have i1 := fun W => index_txt W 9 Tryz.underlying9 hc .i64 _ rfl
      have hdrop := drop_bs hc
      have Hc := zH hc
      clear hc
      by_cases hb : c = 32
      · subst hb
        have hv := scan_blank hu.out (by omega) Hc.out (by omega)
        have HV := zH hv
        clear hv hu hdrop Hc
        go_wp2_with fail
        have ST := (hB.out.1.at_ (k + 1) (u := .int .i64 ((k : Int) + 1)) (by go_num)).keep (zB.alloc zL (.cells #[.int .i64 0, .string ⟨#[]⟩, .int .i64 0, .int .i64 (k : Int)] 127))
        go_roundw
        case rel => exact ⟨k + 1, f - 1, a, oa, on, oc, toks, by omega, by omega, by omega, rfl, HV.out, ST, hB.out.2⟩
        case measure => rw [Hat.out, ST.cell_at]; omega
      by_cases hb : c = 10
      · subst hb
        have hv := scan_blank hu.out (by omega) Hc.out (by omega)
        have HV := zH hv
        clear hv hu hdrop Hc
        go_wp2_with fail
        have ST := (hB.out.1.at_ (k + 1) (u := .int .i64 ((k : Int) + 1)) (by go_num)).keep (zB.alloc zL (.cells #[.int .i64 0, .string ⟨#[]⟩, .int .i64 0, .int .i64 (k : Int)] 127))
        go_roundw
        case rel => exact ⟨k + 1, f - 1, a, oa, on, oc, toks, by omega, by omega, by omega, rfl, HV.out, ST, hB.out.2⟩
        case measure => rw [Hat.out, ST.cell_at]; omega
      have c1 : ((c : Int) == 32) = false := by simp; omega
      have c2 : ((c : Int) == 10) = false := by simp; omega
      have hnb : ¬ (c = 32 ∨ c = 10) := by omega
      have hbz := hB.out.1.2.2.2.size
      by_cases h34 : c = 34
      · subst h34
        obtain ⟨Q, hQ⟩ : ∃ Q, quoteAt (bs s) k = Q := ⟨_, rfl⟩
        have UQ : Hid (∀ W, Calls Tryz.prog 41 #[.string s, .int .i64 (k : Int)] W fun e w' => e = .returned (.tuple #[.string (txt Q.1), .int .i64 (Q.2.1 : Int), .int .i64 (Q.2.2 : Int)]) ∧ Below W.heap.size W w') := zH (fun W => by
          have := unquote_any s (k : Int) (wf_in (by omega) (by omega)) (by rw [Hn.out.1]; omega) W
          rw [unquote_at Hc.out, hQ] at this
          exact this)
        obtain ⟨q1, q2, q3⟩ := Q
        by_cases hq3 : q3 = 0
        · subst hq3
          have hby : Bytes (bs s) := bs_bytes s
          obtain ⟨g1, g2, g3⟩ := unq_some _ _ _ _ _ _ hby bytes_nil hQ
          have g4 := unq_len _ _ _ _ _ _ _ hQ rfl hby
          rw [Hn.out.2] at g3
          simp only [List.length_nil] at g4
          have hv := scan_quote hu.out (by omega) Hc.out hQ
          have HV := zH hv
          have HT : Hid (Tok.Is [.int .i64 2, .string (txt q1), .int .i64 0, .int .i64 (k : Int)] ⟨((2 : Nat) : Int), q1, 0, (k : Int)⟩) := zH ⟨rfl, Tok.mk_ok (k := 2) g1 (by omega) (by omega) (by omega) (by omega) (by omega)⟩
          clear hv hu hdrop Hc hQ hby g1 g4
          go_wp2_with (first
            | (go_at_call 41
               refine (UQ.out _).mono ?_
               rintro e w1 ⟨rfl, qq⟩
               have T1 : Hid (TokSt wr w1 #[Value.int .i64 0, Value.string ⟨#[]⟩, Value.int .i64 0, Value.int .i64 (k : Int)]) := zH ((TokSt.new wr _).call qq)
               have t0 := T1.out.2.cell (i := 0) rfl
               have t1 := T1.out.2.cell (i := 1) rfl
               have t2 := T1.out.2.cell (i := 2) rfl
               have t3 := T1.out.2.cell (i := 3) rfl
               obtain ⟨d0, d1, d2, d3, d4, d5, d6, d7⟩ := T1.out.facts hB.out.1
               clear qq)
            | (at_builtin
               go_must (refine wpList_append_list rfl (.tmp 107) (.tmp 109) _ rfl (w.heap.size + 1 + 1) _ 127 j _ 4 40 Tryz.underlying102 I.out.1 I.out.2.1 I.out.2.2.1 I.out.2.2.2 rfl (by omega) (R := Tok.Is) (l := toks) (m := [⟨((2 : Nat) : Int), q1, 0, (k : Int)⟩]) (.slice oa on oc) rfl (by exact (hB.out.1.keep (((T1.out.set 0 (.int .i64 2)).set 1 (.string (txt q1))).alloc _).1).2.2.1) (some ⟨w1.heap.size, 0, none⟩) 1 1 rfl (by exact (SlR.new1 (by simp [World.setCell]) rfl HT.out)) (a + 1) (by rw [hB.out.2]) Tok.Is.one (by rw [hB.out.2]; unfold maxLen; omega) (by rw [hB.out.2]; omega) (by simp [World.setCell]; omega) ?_)
               intro xa xc w9 hown hgr
               have ST9 : Hid (ScanSt w s k (.slice xa (a + 1) xc) (toks ++ [⟨((2 : Nat) : Int), q1, 0, (k : Int)⟩]) w9) := zH ((hB.out.1.keep (((T1.out.set 0 (.int .i64 2)).set 1 (.string (txt q1))).alloc _).1).grown hgr hown)
               have e0 := ST9.out.2.1.cell (i := 0) rfl
               have e1 := ST9.out.2.1.frozen 0
               have e2 : w.heap.size + 1 < w9.heap.size := ST9.out.2.1.lt
               clear hown hgr d0 d1 d2 d3 d4 d5 d6 d7 t0 t1 t2 t3))
          have ST := ST9.out.at_ (q2) (u := .int .i64 ((q2 : Int))) (by rfl)
          go_roundw
          case rel => exact ⟨q2, f - 1, a + 1, xa, a + 1, xc, _, by omega, by omega, by omega, rfl, HV.out, ST, by simp [hB.out.2]⟩
          case measure => rw [Hat.out, ST.cell_at]; omega
        · have h10 : q3 = 10 := unq_err8 _ _ _ _ _ _ _ hQ hq3
          subst h10
          have hv := scan_quote_no hu.out (by omega) Hc.out hQ (by omega)
          have HV := zH hv
          clear hv hu hdrop Hc hQ hq3
          go_wp2_with (first
            | (go_at_call 41
               refine (UQ.out _).mono ?_
               rintro e w1 ⟨rfl, qq⟩
               have T1 : Hid (TokSt wr w1 #[Value.int .i64 0, Value.string ⟨#[]⟩, Value.int .i64 0, Value.int .i64 (k : Int)]) := zH ((TokSt.new wr _).call qq)
               have t0 := T1.out.2.cell (i := 0) rfl
               have t1 := T1.out.2.cell (i := 1) rfl
               have t2 := T1.out.2.cell (i := 2) rfl
               have t3 := T1.out.2.cell (i := 3) rfl
               obtain ⟨d0, d1, d2, d3, d4, d5, d6, d7⟩ := T1.out.facts hB.out.1
               clear qq))
          (try simp only [Exit.inBlock, Exit.then, Exit.noGoto_ret])
          go_ret3
          exact ScanIs.no (by first | rfl | (push_cast; rfl)) (hB.out.1.keep ((T1.out.set 0 (.int .i64 2)).set 1 (.string (txt q1))).1).2.2.2 (by rw [HR.out.1, HV.out])
      have c3 : ((c : Int) == 34) = false := by simp; omega
      have hby : Bytes ((bs s).drop k) := fun x hx => bs_bytes s x (List.mem_of_mem_drop hx)
      by_cases hdig : 48 ≤ c ∧ c ≤ 57
      · have D := zH (fun W => lex_digit c true (by simp [figN]; omega) W)
        obtain ⟨Q, hQ⟩ : ∃ Q, numScan ((bs s).drop k) 0 0 = Q := ⟨_, rfl⟩
        have NU := zH (fun W => lex_number s k (by rw [Hn.out.1]; omega) (by rw [Hn.out.1]; omega) Q hQ W)
        have hsp : stepP ((bs s).drop k) = if Q.2.2 then (some (1, [], (Q.1 : Int)), Q.2.1) else (none, Q.2.1) := by
          rw [hdrop] at hQ ⊢
          simp only [stepP]
          rw [if_pos hdig, hQ]
        obtain ⟨q1, q2, q3⟩ := Q
        cases q3 with
        | true =>
          rw [if_pos rfl] at hsp
          obtain ⟨g1, g2, g3, g4, g5, g6⟩ := step_some hby hsp
          rw [List.length_drop, Hn.out.2] at g2
          have hv := scan_step hu.out (by omega) Hc.out hnb h34 hsp
          have HV := zH hv
          have HT : Hid (Tok.Is [.int .i64 1, .string ⟨#[]⟩, .int .i64 (q1 : Int), .int .i64 (k : Int)] ⟨((1 : Nat) : Int), [], (q1 : Int), (k : Int)⟩) := zH ⟨rfl, Tok.mk_ok (k := 1) bytes_nil (Nat.zero_le _) (by omega) (by omega) g5 g6⟩
          clear hv hu hdrop Hc hsp hQ g3 g5 g6 hby
          go_wp2_with (first
            | (go_at_call 65
               refine (D.out _).mono ?_
               rintro e w1 ⟨rfl, qq⟩
               have T1 : Hid (TokSt wr w1 #[Value.int .i64 0, Value.string ⟨#[]⟩, Value.int .i64 0, Value.int .i64 (k : Int)]) := zH ((TokSt.new wr _).quiet qq)
               have t0 := T1.out.2.cell (i := 0) rfl
               have t1 := T1.out.2.cell (i := 1) rfl
               have t2 := T1.out.2.cell (i := 2) rfl
               have t3 := T1.out.2.cell (i := 3) rfl
               obtain ⟨d0, d1, d2, d3, d4, d5, d6, d7⟩ := T1.out.facts hB.out.1
               clear qq)
            | (go_at_call 66
               refine (NU.out _).mono ?_
               rintro e w2 ⟨rfl, qq⟩
               have T2 : Hid (TokSt wr w2 #[Value.int .i64 1, Value.string ⟨#[]⟩, Value.int .i64 0, Value.int .i64 (k : Int)]) := zH ((T1.out.set 0 (.int .i64 1)).quiet qq)
               clear d0 d1 d2 d3 d4 d5 d6 d7 t0 t1 t2 t3
               have t0 := T2.out.2.cell (i := 0) rfl
               have t1 := T2.out.2.cell (i := 1) rfl
               have t2 := T2.out.2.cell (i := 2) rfl
               have t3 := T2.out.2.cell (i := 3) rfl
               obtain ⟨d0, d1, d2, d3, d4, d5, d6, d7⟩ := T2.out.facts hB.out.1
               clear qq)
            | (at_builtin
               go_must (refine wpList_append_list rfl (.tmp 107) (.tmp 109) _ rfl (w.heap.size + 1 + 1) _ 127 j _ 4 40 Tryz.underlying102 I.out.1 I.out.2.1 I.out.2.2.1 I.out.2.2.2 rfl (by omega) (R := Tok.Is) (l := toks) (m := [⟨((1 : Nat) : Int), [], (q1 : Int), (k : Int)⟩]) (.slice oa on oc) rfl (by exact (hB.out.1.keep ((T2.out.set 2 (.int .i64 (q1 : Int))).alloc _).1).2.2.1) (some ⟨w2.heap.size, 0, none⟩) 1 1 rfl (by exact (SlR.new1 (by simp [World.setCell]) rfl HT.out)) (a + 1) (by rw [hB.out.2]) Tok.Is.one (by rw [hB.out.2]; unfold maxLen; omega) (by rw [hB.out.2]; omega) (by simp [World.setCell]; omega) ?_)
               intro xa xc w9 hown hgr
               have ST9 : Hid (ScanSt w s k (.slice xa (a + 1) xc) (toks ++ [⟨((1 : Nat) : Int), [], (q1 : Int), (k : Int)⟩]) w9) := zH ((hB.out.1.keep ((T2.out.set 2 (.int .i64 (q1 : Int))).alloc _).1).grown hgr hown)
               have e0 := ST9.out.2.1.cell (i := 0) rfl
               have e1 := ST9.out.2.1.frozen 0
               have e2 : w.heap.size + 1 < w9.heap.size := ST9.out.2.1.lt
               clear hown hgr d0 d1 d2 d3 d4 d5 d6 d7 t0 t1 t2 t3))
          have ST := ST9.out.at_ (k + q2) (u := .int .i64 ((k : Int) + (q2 : Int))) (by go_num)
          go_roundw
          case rel => exact ⟨k + q2, f - 1, a + 1, xa, a + 1, xc, _, by omega, by omega, by omega, rfl, HV.out, ST, by simp [hB.out.2]⟩
          case measure => rw [Hat.out, ST.cell_at]; omega
        | false =>
          rw [if_neg (by simp)] at hsp
          have hv := scan_step_no hu.out (by omega) Hc.out hnb h34 hsp
          have HV := zH hv
          clear hv hu hdrop Hc hsp hQ hby
          go_wp2_with (first
            | (go_at_call 65
               refine (D.out _).mono ?_
               rintro e w1 ⟨rfl, qq⟩
               have T1 : Hid (TokSt wr w1 #[Value.int .i64 0, Value.string ⟨#[]⟩, Value.int .i64 0, Value.int .i64 (k : Int)]) := zH ((TokSt.new wr _).quiet qq)
               have t0 := T1.out.2.cell (i := 0) rfl
               have t1 := T1.out.2.cell (i := 1) rfl
               have t2 := T1.out.2.cell (i := 2) rfl
               have t3 := T1.out.2.cell (i := 3) rfl
               obtain ⟨d0, d1, d2, d3, d4, d5, d6, d7⟩ := T1.out.facts hB.out.1
               clear qq)
            | (go_at_call 66
               refine (NU.out _).mono ?_
               rintro e w2 ⟨rfl, qq⟩
               have T2 : Hid (TokSt wr w2 #[Value.int .i64 1, Value.string ⟨#[]⟩, Value.int .i64 0, Value.int .i64 (k : Int)]) := zH ((T1.out.set 0 (.int .i64 1)).quiet qq)
               clear d0 d1 d2 d3 d4 d5 d6 d7 t0 t1 t2 t3
               have t0 := T2.out.2.cell (i := 0) rfl
               have t1 := T2.out.2.cell (i := 1) rfl
               have t2 := T2.out.2.cell (i := 2) rfl
               have t3 := T2.out.2.cell (i := 3) rfl
               obtain ⟨d0, d1, d2, d3, d4, d5, d6, d7⟩ := T2.out.facts hB.out.1
               clear qq))
          (try simp only [Exit.inBlock, Exit.then, Exit.noGoto_ret])
          go_ret3
          exact ScanIs.no (by first | rfl | (push_cast; rfl)) (hB.out.1.keep (T2.out.set 2 (.int .i64 (q1 : Int))).1).2.2.2 (by rw [HR.out.1, HV.out])
      have hd0 : figN c = false := by simp [figN]; omega
      have D := zH (fun W => lex_digit c false hd0 W)
      by_cases hlet : letterN c = true
      · have L := zH (fun W => lex_letter c true hlet W)
        obtain ⟨q, hq⟩ : ∃ q, ((bs s).drop k).takeWhile furtherN = q := ⟨_, rfl⟩
        have RN : Hid (∀ W, Blk W w.heap.size 9 #[.string s] → Blk W (w.heap.size + 1) 3 #[.int .i64 (k : Int)] → Calls Tryz.prog 63 #[.pointer (some ⟨w.heap.size + 1, 0, none⟩), .pointer (some ⟨w.heap.size, 0, none⟩)] W fun e w' => e = .returned (.string (txt q)) ∧ Quiet W w') := zH (fun W h1 h2 => by
          have := lex_run s k (by rw [Hn.out.1]; omega) (by rw [Hn.out.1]; omega) W _ _ h1 h2
          rw [hq] at this
          exact this)
        have hqb : Bytes q := fun x hx => hby x (by rw [← hq] at hx; exact (List.takeWhile_sublist _).subset hx)
        have hql : q.length ≤ n - k := by
          rw [← hq, ← Hn.out.2, ← List.length_drop]
          exact takeWhile_le _
        have hqz : ((txt q).size : Int) = (q.length : Int) := by rw [txt_size]
        have hsp : stepP ((bs s).drop k) = (if q.length ≤ 32 then (some (if q ∈ wordsL then 4 else 3, q, 0), q.length) else (none, 32)) := by
          rw [hdrop] at hq ⊢
          simp only [stepP]
          rw [if_neg hdig, if_pos hlet, hq]
        by_cases hw : q ∈ wordsL
        · have RV : Hid (∀ W, Calls Tryz.prog 68 #[.string (txt q)] W fun e w' => e = .returned (.bool true) ∧ Quiet W w') := zH (fun W => by
            have := lex_reserved_any (txt q) W
            rw [bs_txt hqb, decide_eq_true hw] at this
            exact this)
          by_cases h32 : q.length ≤ 32
          · rw [if_pos h32, if_pos hw] at hsp
            obtain ⟨g1, g2, g3, g4, g5, g6⟩ := step_some hby hsp
            have hv := scan_step hu.out (by omega) Hc.out hnb h34 hsp
            have HV := zH hv
            have HT : Hid (Tok.Is [.int .i64 4, .string (txt q), .int .i64 0, .int .i64 (k : Int)] ⟨((4 : Nat) : Int), q, 0, (k : Int)⟩) := zH ⟨rfl, Tok.mk_ok (k := 4) g3 (by omega) (by omega) (by omega) (by omega) (by omega)⟩
            have h32' : decide ((q.length : Int) ≤ 32) = true := by simp; omega
            have hmn : min (q.length : Int) 32 = (q.length : Int) := Int.min_eq_left (by omega)
            clear hv hu hdrop Hc hsp hq hby hqb g3 g5 g6 hw hd0 hlet
            go_wp2_with (first
              | (go_at_call 65
                 refine (D.out _).mono ?_
                 rintro e w1 ⟨rfl, qq⟩
                 have T1 : Hid (TokSt wr w1 #[Value.int .i64 0, Value.string ⟨#[]⟩, Value.int .i64 0, Value.int .i64 (k : Int)]) := zH ((TokSt.new wr _).quiet qq)
                 have t0 := T1.out.2.cell (i := 0) rfl
                 have t1 := T1.out.2.cell (i := 1) rfl
                 have t2 := T1.out.2.cell (i := 2) rfl
                 have t3 := T1.out.2.cell (i := 3) rfl
                 obtain ⟨d0, d1, d2, d3, d4, d5, d6, d7⟩ := T1.out.facts hB.out.1
                 clear qq)
              | (go_at_call 67
                 refine (L.out _).mono ?_
                 rintro e w2 ⟨rfl, qq⟩
                 have T2 : Hid (TokSt wr w2 #[Value.int .i64 0, Value.string ⟨#[]⟩, Value.int .i64 0, Value.int .i64 (k : Int)]) := zH ((T1.out).quiet qq)
                 clear d0 d1 d2 d3 d4 d5 d6 d7 t0 t1 t2 t3
                 have t0 := T2.out.2.cell (i := 0) rfl
                 have t1 := T2.out.2.cell (i := 1) rfl
                 have t2 := T2.out.2.cell (i := 2) rfl
                 have t3 := T2.out.2.cell (i := 3) rfl
                 obtain ⟨d0, d1, d2, d3, d4, d5, d6, d7⟩ := T2.out.facts hB.out.1
                 clear qq)
              | (go_at_call 63
                 refine (RN.out _ (hB.out.1.keep T2.out.1).1 (hB.out.1.keep T2.out.1).2.1).mono ?_
                 rintro e w3 ⟨rfl, qq⟩
                 have T3 : Hid (TokSt wr w3 #[Value.int .i64 0, Value.string ⟨#[]⟩, Value.int .i64 0, Value.int .i64 (k : Int)]) := zH ((T2.out).quiet qq)
                 clear d0 d1 d2 d3 d4 d5 d6 d7 t0 t1 t2 t3
                 have t0 := T3.out.2.cell (i := 0) rfl
                 have t1 := T3.out.2.cell (i := 1) rfl
                 have t2 := T3.out.2.cell (i := 2) rfl
                 have t3 := T3.out.2.cell (i := 3) rfl
                 obtain ⟨d0, d1, d2, d3, d4, d5, d6, d7⟩ := T3.out.facts hB.out.1
                 clear qq)
              | (go_at_call 68
                 refine (RV.out _).mono ?_
                 rintro e w4 ⟨rfl, qq⟩
                 have T4 : Hid (TokSt wr w4 #[Value.int .i64 3, Value.string (txt q), Value.int .i64 0, Value.int .i64 (k : Int)]) := zH (((T3.out.set 0 (.int .i64 3)).set 1 (.string (txt q))).quiet qq)
                 clear d0 d1 d2 d3 d4 d5 d6 d7 t0 t1 t2 t3
                 have t0 := T4.out.2.cell (i := 0) rfl
                 have t1 := T4.out.2.cell (i := 1) rfl
                 have t2 := T4.out.2.cell (i := 2) rfl
                 have t3 := T4.out.2.cell (i := 3) rfl
                 obtain ⟨d0, d1, d2, d3, d4, d5, d6, d7⟩ := T4.out.facts hB.out.1
                 clear qq))
            go_region
            go_wp2_with (first
              | (at_builtin
                 go_must (refine wpList_append_list rfl (.tmp 107) (.tmp 109) _ rfl (w.heap.size + 1 + 1) _ 127 j _ 4 40 Tryz.underlying102 I.out.1 I.out.2.1 I.out.2.2.1 I.out.2.2.2 rfl (by omega) (R := Tok.Is) (l := toks) (m := [⟨((4 : Nat) : Int), q, 0, (k : Int)⟩]) (.slice oa on oc) rfl (by exact (hB.out.1.keep ((T4.out.set 0 (.int .i64 4)).alloc _).drew.1).2.2.1) (some ⟨w4.heap.size, 0, none⟩) 1 1 rfl (by exact SlR.drew_ (SlR.new1 (by simp [World.setCell]) rfl HT.out)) (a + 1) (by rw [hB.out.2]) Tok.Is.one (by rw [hB.out.2]; unfold maxLen; omega) (by rw [hB.out.2]; omega) (by simp [World.setCell]; omega) ?_)
                 intro xa xc w9 hown hgr
                 have ST9 : Hid (ScanSt w s k (.slice xa (a + 1) xc) (toks ++ [⟨((4 : Nat) : Int), q, 0, (k : Int)⟩]) w9) := zH ((hB.out.1.keep ((T4.out.set 0 (.int .i64 4)).alloc _).drew.1).grown hgr hown)
                 have e0 := ST9.out.2.1.cell (i := 0) rfl
                 have e1 := ST9.out.2.1.frozen 0
                 have e2 : w.heap.size + 1 < w9.heap.size := ST9.out.2.1.lt
                 clear hown hgr d0 d1 d2 d3 d4 d5 d6 d7 t0 t1 t2 t3))
            have ST := ST9.out.at_ (k + q.length) (u := .int .i64 ((k : Int) + (q.length : Int))) (by go_num)
            go_roundw
            case rel => exact ⟨k + q.length, f - 1, a + 1, xa, a + 1, xc, _, by omega, by omega, by omega, rfl, HV.out, ST, by simp [hB.out.2]⟩
            case measure => rw [Hat.out, ST.cell_at]; omega
          · rw [if_neg h32] at hsp
            have hv := scan_step_no hu.out (by omega) Hc.out hnb h34 hsp
            have HV := zH hv
            have h32' : decide ((q.length : Int) ≤ 32) = false := by simp; omega
            have hmn : min (q.length : Int) 32 = 32 := Int.min_eq_right (by omega)
            clear hv hu hdrop Hc hsp hq hby hqb hw hd0 hlet
            go_wp2_with (first
              | (go_at_call 65
                 refine (D.out _).mono ?_
                 rintro e w1 ⟨rfl, qq⟩
                 have T1 : Hid (TokSt wr w1 #[Value.int .i64 0, Value.string ⟨#[]⟩, Value.int .i64 0, Value.int .i64 (k : Int)]) := zH ((TokSt.new wr _).quiet qq)
                 have t0 := T1.out.2.cell (i := 0) rfl
                 have t1 := T1.out.2.cell (i := 1) rfl
                 have t2 := T1.out.2.cell (i := 2) rfl
                 have t3 := T1.out.2.cell (i := 3) rfl
                 obtain ⟨d0, d1, d2, d3, d4, d5, d6, d7⟩ := T1.out.facts hB.out.1
                 clear qq)
              | (go_at_call 67
                 refine (L.out _).mono ?_
                 rintro e w2 ⟨rfl, qq⟩
                 have T2 : Hid (TokSt wr w2 #[Value.int .i64 0, Value.string ⟨#[]⟩, Value.int .i64 0, Value.int .i64 (k : Int)]) := zH ((T1.out).quiet qq)
                 clear d0 d1 d2 d3 d4 d5 d6 d7 t0 t1 t2 t3
                 have t0 := T2.out.2.cell (i := 0) rfl
                 have t1 := T2.out.2.cell (i := 1) rfl
                 have t2 := T2.out.2.cell (i := 2) rfl
                 have t3 := T2.out.2.cell (i := 3) rfl
                 obtain ⟨d0, d1, d2, d3, d4, d5, d6, d7⟩ := T2.out.facts hB.out.1
                 clear qq)
              | (go_at_call 63
                 refine (RN.out _ (hB.out.1.keep T2.out.1).1 (hB.out.1.keep T2.out.1).2.1).mono ?_
                 rintro e w3 ⟨rfl, qq⟩
                 have T3 : Hid (TokSt wr w3 #[Value.int .i64 0, Value.string ⟨#[]⟩, Value.int .i64 0, Value.int .i64 (k : Int)]) := zH ((T2.out).quiet qq)
                 clear d0 d1 d2 d3 d4 d5 d6 d7 t0 t1 t2 t3
                 have t0 := T3.out.2.cell (i := 0) rfl
                 have t1 := T3.out.2.cell (i := 1) rfl
                 have t2 := T3.out.2.cell (i := 2) rfl
                 have t3 := T3.out.2.cell (i := 3) rfl
                 obtain ⟨d0, d1, d2, d3, d4, d5, d6, d7⟩ := T3.out.facts hB.out.1
                 clear qq)
              | (go_at_call 68
                 refine (RV.out _).mono ?_
                 rintro e w4 ⟨rfl, qq⟩
                 have T4 : Hid (TokSt wr w4 #[Value.int .i64 3, Value.string (txt q), Value.int .i64 0, Value.int .i64 (k : Int)]) := zH (((T3.out.set 0 (.int .i64 3)).set 1 (.string (txt q))).quiet qq)
                 clear d0 d1 d2 d3 d4 d5 d6 d7 t0 t1 t2 t3
                 have t0 := T4.out.2.cell (i := 0) rfl
                 have t1 := T4.out.2.cell (i := 1) rfl
                 have t2 := T4.out.2.cell (i := 2) rfl
                 have t3 := T4.out.2.cell (i := 3) rfl
                 obtain ⟨d0, d1, d2, d3, d4, d5, d6, d7⟩ := T4.out.facts hB.out.1
                 clear qq))
            go_region
            go_wp2_with fail
            (try simp only [Exit.inBlock, Exit.then, Exit.noGoto_ret])
            go_ret3
            exact ScanIs.no (by first | rfl | (push_cast; rfl)) (hB.out.1.keep ((T4.out.set 0 (.int .i64 4)).drew).1).2.2.2 (by rw [HR.out.1, HV.out])
        · have RV : Hid (∀ W, Calls Tryz.prog 68 #[.string (txt q)] W fun e w' => e = .returned (.bool false) ∧ Quiet W w') := zH (fun W => by
            have := lex_reserved_any (txt q) W
            rw [bs_txt hqb, decide_eq_false hw] at this
            exact this)
          by_cases h32 : q.length ≤ 32
          · rw [if_pos h32, if_neg hw] at hsp
            obtain ⟨g1, g2, g3, g4, g5, g6⟩ := step_some hby hsp
            have hv := scan_step hu.out (by omega) Hc.out hnb h34 hsp
            have HV := zH hv
            have HT : Hid (Tok.Is [.int .i64 3, .string (txt q), .int .i64 0, .int .i64 (k : Int)] ⟨((3 : Nat) : Int), q, 0, (k : Int)⟩) := zH ⟨rfl, Tok.mk_ok (k := 3) g3 (by omega) (by omega) (by omega) (by omega) (by omega)⟩
            have h32' : decide ((q.length : Int) ≤ 32) = true := by simp; omega
            have hmn : min (q.length : Int) 32 = (q.length : Int) := Int.min_eq_left (by omega)
            clear hv hu hdrop Hc hsp hq hby hqb g3 g5 g6 hw hd0 hlet
            go_wp2_with (first
              | (go_at_call 65
                 refine (D.out _).mono ?_
                 rintro e w1 ⟨rfl, qq⟩
                 have T1 : Hid (TokSt wr w1 #[Value.int .i64 0, Value.string ⟨#[]⟩, Value.int .i64 0, Value.int .i64 (k : Int)]) := zH ((TokSt.new wr _).quiet qq)
                 have t0 := T1.out.2.cell (i := 0) rfl
                 have t1 := T1.out.2.cell (i := 1) rfl
                 have t2 := T1.out.2.cell (i := 2) rfl
                 have t3 := T1.out.2.cell (i := 3) rfl
                 obtain ⟨d0, d1, d2, d3, d4, d5, d6, d7⟩ := T1.out.facts hB.out.1
                 clear qq)
              | (go_at_call 67
                 refine (L.out _).mono ?_
                 rintro e w2 ⟨rfl, qq⟩
                 have T2 : Hid (TokSt wr w2 #[Value.int .i64 0, Value.string ⟨#[]⟩, Value.int .i64 0, Value.int .i64 (k : Int)]) := zH ((T1.out).quiet qq)
                 clear d0 d1 d2 d3 d4 d5 d6 d7 t0 t1 t2 t3
                 have t0 := T2.out.2.cell (i := 0) rfl
                 have t1 := T2.out.2.cell (i := 1) rfl
                 have t2 := T2.out.2.cell (i := 2) rfl
                 have t3 := T2.out.2.cell (i := 3) rfl
                 obtain ⟨d0, d1, d2, d3, d4, d5, d6, d7⟩ := T2.out.facts hB.out.1
                 clear qq)
              | (go_at_call 63
                 refine (RN.out _ (hB.out.1.keep T2.out.1).1 (hB.out.1.keep T2.out.1).2.1).mono ?_
                 rintro e w3 ⟨rfl, qq⟩
                 have T3 : Hid (TokSt wr w3 #[Value.int .i64 0, Value.string ⟨#[]⟩, Value.int .i64 0, Value.int .i64 (k : Int)]) := zH ((T2.out).quiet qq)
                 clear d0 d1 d2 d3 d4 d5 d6 d7 t0 t1 t2 t3
                 have t0 := T3.out.2.cell (i := 0) rfl
                 have t1 := T3.out.2.cell (i := 1) rfl
                 have t2 := T3.out.2.cell (i := 2) rfl
                 have t3 := T3.out.2.cell (i := 3) rfl
                 obtain ⟨d0, d1, d2, d3, d4, d5, d6, d7⟩ := T3.out.facts hB.out.1
                 clear qq)
              | (go_at_call 68
                 refine (RV.out _).mono ?_
                 rintro e w4 ⟨rfl, qq⟩
                 have T4 : Hid (TokSt wr w4 #[Value.int .i64 3, Value.string (txt q), Value.int .i64 0, Value.int .i64 (k : Int)]) := zH (((T3.out.set 0 (.int .i64 3)).set 1 (.string (txt q))).quiet qq)
                 clear d0 d1 d2 d3 d4 d5 d6 d7 t0 t1 t2 t3
                 have t0 := T4.out.2.cell (i := 0) rfl
                 have t1 := T4.out.2.cell (i := 1) rfl
                 have t2 := T4.out.2.cell (i := 2) rfl
                 have t3 := T4.out.2.cell (i := 3) rfl
                 obtain ⟨d0, d1, d2, d3, d4, d5, d6, d7⟩ := T4.out.facts hB.out.1
                 clear qq))
            go_region
            go_wp2_with (first
              | (at_builtin
                 go_must (refine wpList_append_list rfl (.tmp 107) (.tmp 109) _ rfl (w.heap.size + 1 + 1) _ 127 j _ 4 40 Tryz.underlying102 I.out.1 I.out.2.1 I.out.2.2.1 I.out.2.2.2 rfl (by omega) (R := Tok.Is) (l := toks) (m := [⟨((3 : Nat) : Int), q, 0, (k : Int)⟩]) (.slice oa on oc) rfl (by exact (hB.out.1.keep ((T4.out).alloc _).drew.1).2.2.1) (some ⟨w4.heap.size, 0, none⟩) 1 1 rfl (by exact SlR.drew_ (SlR.new1 (by simp [World.setCell]) rfl HT.out)) (a + 1) (by rw [hB.out.2]) Tok.Is.one (by rw [hB.out.2]; unfold maxLen; omega) (by rw [hB.out.2]; omega) (by simp [World.setCell]; omega) ?_)
                 intro xa xc w9 hown hgr
                 have ST9 : Hid (ScanSt w s k (.slice xa (a + 1) xc) (toks ++ [⟨((3 : Nat) : Int), q, 0, (k : Int)⟩]) w9) := zH ((hB.out.1.keep ((T4.out).alloc _).drew.1).grown hgr hown)
                 have e0 := ST9.out.2.1.cell (i := 0) rfl
                 have e1 := ST9.out.2.1.frozen 0
                 have e2 : w.heap.size + 1 < w9.heap.size := ST9.out.2.1.lt
                 clear hown hgr d0 d1 d2 d3 d4 d5 d6 d7 t0 t1 t2 t3))
            have ST := ST9.out.at_ (k + q.length) (u := .int .i64 ((k : Int) + (q.length : Int))) (by go_num)
            go_roundw
            case rel => exact ⟨k + q.length, f - 1, a + 1, xa, a + 1, xc, _, by omega, by omega, by omega, rfl, HV.out, ST, by simp [hB.out.2]⟩
            case measure => rw [Hat.out, ST.cell_at]; omega
          · rw [if_neg h32] at hsp
            have hv := scan_step_no hu.out (by omega) Hc.out hnb h34 hsp
            have HV := zH hv
            have h32' : decide ((q.length : Int) ≤ 32) = false := by simp; omega
            have hmn : min (q.length : Int) 32 = 32 := Int.min_eq_right (by omega)
            clear hv hu hdrop Hc hsp hq hby hqb hw hd0 hlet
            go_wp2_with (first
              | (go_at_call 65
                 refine (D.out _).mono ?_
                 rintro e w1 ⟨rfl, qq⟩
                 have T1 : Hid (TokSt wr w1 #[Value.int .i64 0, Value.string ⟨#[]⟩, Value.int .i64 0, Value.int .i64 (k : Int)]) := zH ((TokSt.new wr _).quiet qq)
                 have t0 := T1.out.2.cell (i := 0) rfl
                 have t1 := T1.out.2.cell (i := 1) rfl
                 have t2 := T1.out.2.cell (i := 2) rfl
                 have t3 := T1.out.2.cell (i := 3) rfl
                 obtain ⟨d0, d1, d2, d3, d4, d5, d6, d7⟩ := T1.out.facts hB.out.1
                 clear qq)
              | (go_at_call 67
                 refine (L.out _).mono ?_
                 rintro e w2 ⟨rfl, qq⟩
                 have T2 : Hid (TokSt wr w2 #[Value.int .i64 0, Value.string ⟨#[]⟩, Value.int .i64 0, Value.int .i64 (k : Int)]) := zH ((T1.out).quiet qq)
                 clear d0 d1 d2 d3 d4 d5 d6 d7 t0 t1 t2 t3
                 have t0 := T2.out.2.cell (i := 0) rfl
                 have t1 := T2.out.2.cell (i := 1) rfl
                 have t2 := T2.out.2.cell (i := 2) rfl
                 have t3 := T2.out.2.cell (i := 3) rfl
                 obtain ⟨d0, d1, d2, d3, d4, d5, d6, d7⟩ := T2.out.facts hB.out.1
                 clear qq)
              | (go_at_call 63
                 refine (RN.out _ (hB.out.1.keep T2.out.1).1 (hB.out.1.keep T2.out.1).2.1).mono ?_
                 rintro e w3 ⟨rfl, qq⟩
                 have T3 : Hid (TokSt wr w3 #[Value.int .i64 0, Value.string ⟨#[]⟩, Value.int .i64 0, Value.int .i64 (k : Int)]) := zH ((T2.out).quiet qq)
                 clear d0 d1 d2 d3 d4 d5 d6 d7 t0 t1 t2 t3
                 have t0 := T3.out.2.cell (i := 0) rfl
                 have t1 := T3.out.2.cell (i := 1) rfl
                 have t2 := T3.out.2.cell (i := 2) rfl
                 have t3 := T3.out.2.cell (i := 3) rfl
                 obtain ⟨d0, d1, d2, d3, d4, d5, d6, d7⟩ := T3.out.facts hB.out.1
                 clear qq)
              | (go_at_call 68
                 refine (RV.out _).mono ?_
                 rintro e w4 ⟨rfl, qq⟩
                 have T4 : Hid (TokSt wr w4 #[Value.int .i64 3, Value.string (txt q), Value.int .i64 0, Value.int .i64 (k : Int)]) := zH (((T3.out.set 0 (.int .i64 3)).set 1 (.string (txt q))).quiet qq)
                 clear d0 d1 d2 d3 d4 d5 d6 d7 t0 t1 t2 t3
                 have t0 := T4.out.2.cell (i := 0) rfl
                 have t1 := T4.out.2.cell (i := 1) rfl
                 have t2 := T4.out.2.cell (i := 2) rfl
                 have t3 := T4.out.2.cell (i := 3) rfl
                 obtain ⟨d0, d1, d2, d3, d4, d5, d6, d7⟩ := T4.out.facts hB.out.1
                 clear qq))
            go_region
            go_wp2_with fail
            (try simp only [Exit.inBlock, Exit.then, Exit.noGoto_ret])
            go_ret3
            exact ScanIs.no (by first | rfl | (push_cast; rfl)) (hB.out.1.keep ((T4.out).drew).1).2.2.2 (by rw [HR.out.1, HV.out])
      · have hlet' : letterN c = false := by simpa using hlet
        have L := zH (fun W => lex_letter c false hlet' W)
        have hx : bs (s.extract k s.size) = (bs s).drop k := by rw [bs_extract, List.take_of_length_le (by rw [bs_len]; exact Nat.le_refl _)]
        have hxs : (s.extract k s.size).size ≤ 4096 := by rw [← bs_len, hx, List.length_drop, Hn.out.2]; omega
        obtain ⟨Q, hQ⟩ : ∃ Q, markN ((bs s).drop k) = Q := ⟨_, rfl⟩
        have hsp : stepP ((bs s).drop k) = if Q.1 = [] then (none, Q.2) else (some (5, Q.1, 0), Q.2) := by
          rw [hdrop] at hQ ⊢
          simp only [stepP]
          rw [if_neg hdig, if_neg hlet, hQ]
        have MK : Hid (∀ W, Below w.heap.size w W → Calls Tryz.prog 69 #[.string (s.extract k s.size)] W fun e w' => e = .returned (.tuple #[.string (txt Q.1), .int .i64 (Q.2 : Int)]) ∧ Quiet W w') := zH (fun W hW => lex_mark (s.extract k s.size) c (by rw [hx, hdrop]; rfl) hxs Q (by rw [hx]; exact hQ) W (Hm.out.below hW))
        obtain ⟨q1, q2⟩ := Q
        have hq2 : q2 ≤ 2 := by
          have : ∀ m ∈ marksL, m.length ≤ 2 := by decide
          unfold markN at hQ
          split at hQ
          · rename_i m hm
            injection hQ with _ h
            rw [← h]
            exact this _ (List.mem_of_find?_eq_some hm)
          · split at hQ <;> injection hQ with _ h <;> omega
        by_cases hq1 : q1 = []
        · subst hq1
          rw [if_pos rfl] at hsp
          have hv := scan_step_no hu.out (by omega) Hc.out hnb h34 hsp
          have HV := zH hv
          have he0 : (txt []).toList = [] := by rw [ByteArray.toList_eq]; rfl
          have he1 : (!(txt []).toList.isEmpty) = false := by rw [he0]; rfl
          have he2 : (txt []).toList.isEmpty = true := by rw [he0]; rfl
          clear hv hu hdrop Hc hsp hQ hby hx hxs hd0 hlet hlet'
          go_wp2_with (first
            | (go_at_call 65
               refine (D.out _).mono ?_
               rintro e w1 ⟨rfl, qq⟩
               have T1 : Hid (TokSt wr w1 #[Value.int .i64 0, Value.string ⟨#[]⟩, Value.int .i64 0, Value.int .i64 (k : Int)]) := zH ((TokSt.new wr _).quiet qq)
               have t0 := T1.out.2.cell (i := 0) rfl
               have t1 := T1.out.2.cell (i := 1) rfl
               have t2 := T1.out.2.cell (i := 2) rfl
               have t3 := T1.out.2.cell (i := 3) rfl
               obtain ⟨d0, d1, d2, d3, d4, d5, d6, d7⟩ := T1.out.facts hB.out.1
               clear qq)
            | (go_at_call 67
               refine (L.out _).mono ?_
               rintro e w2 ⟨rfl, qq⟩
               have T2 : Hid (TokSt wr w2 #[Value.int .i64 0, Value.string ⟨#[]⟩, Value.int .i64 0, Value.int .i64 (k : Int)]) := zH ((T1.out).quiet qq)
               clear d0 d1 d2 d3 d4 d5 d6 d7 t0 t1 t2 t3
               have t0 := T2.out.2.cell (i := 0) rfl
               have t1 := T2.out.2.cell (i := 1) rfl
               have t2 := T2.out.2.cell (i := 2) rfl
               have t3 := T2.out.2.cell (i := 3) rfl
               obtain ⟨d0, d1, d2, d3, d4, d5, d6, d7⟩ := T2.out.facts hB.out.1
               clear qq)
            | (go_at_call 69
               refine (MK.out _ (hB.out.1.keep T2.out.1).2.2.2).mono ?_
               rintro e w3 ⟨rfl, qq⟩
               have T3 : Hid (TokSt wr w3 #[Value.int .i64 0, Value.string ⟨#[]⟩, Value.int .i64 0, Value.int .i64 (k : Int)]) := zH ((T2.out).quiet qq)
               clear d0 d1 d2 d3 d4 d5 d6 d7 t0 t1 t2 t3
               have t0 := T3.out.2.cell (i := 0) rfl
               have t1 := T3.out.2.cell (i := 1) rfl
               have t2 := T3.out.2.cell (i := 2) rfl
               have t3 := T3.out.2.cell (i := 3) rfl
               obtain ⟨d0, d1, d2, d3, d4, d5, d6, d7⟩ := T3.out.facts hB.out.1
               clear qq))
          go_region
          go_wp2_with fail
          (try simp only [Exit.inBlock, Exit.then, Exit.noGoto_ret])
          go_ret3
          exact ScanIs.no (by first | rfl | (push_cast; rfl)) (hB.out.1.keep (((T3.out.set 0 (.int .i64 5)).set 1 (.string (txt []))).drew).1).2.2.2 (by rw [HR.out.1, HV.out])
        · rw [if_neg hq1] at hsp
          obtain ⟨g1, g2, g3, g4, g5, g6⟩ := step_some hby hsp
          have g7 := step_len8 hsp
          rw [List.length_drop, Hn.out.2] at g2 g7
          replace g3 : Bytes q1 := g3
          replace g7 : q1.length ≤ n - k := g7
          have hv := scan_step hu.out (by omega) Hc.out hnb h34 hsp
          have HV := zH hv
          have HT : Hid (Tok.Is [.int .i64 5, .string (txt q1), .int .i64 0, .int .i64 (k : Int)] ⟨((5 : Nat) : Int), q1, 0, (k : Int)⟩) := zH ⟨rfl, Tok.mk_ok (k := 5) g3 (by omega) (by omega) (by omega) (by omega) (by omega)⟩
          have hne : ¬ txt q1 = txt [] := fun e => hq1 (by rw [← bs_txt g3, e]; rfl)
          have hne1 : ¬ (txt q1).toList = [] := fun e => hne ((toList_inj _ _).1 (e.trans (by rw [ByteArray.toList_eq]; rfl)))
          have hne2 : (!(txt q1).toList.isEmpty) = true := by simpa using hne1
          have hne3 : ((txt q1).toList == []) = false := by simpa using hne1
          clear hv hu hdrop Hc hsp hQ hby hx hxs hd0 hlet hlet' g3 g5 g6 hne hq1
          go_wp2_with (first
            | (go_at_call 65
               refine (D.out _).mono ?_
               rintro e w1 ⟨rfl, qq⟩
               have T1 : Hid (TokSt wr w1 #[Value.int .i64 0, Value.string ⟨#[]⟩, Value.int .i64 0, Value.int .i64 (k : Int)]) := zH ((TokSt.new wr _).quiet qq)
               have t0 := T1.out.2.cell (i := 0) rfl
               have t1 := T1.out.2.cell (i := 1) rfl
               have t2 := T1.out.2.cell (i := 2) rfl
               have t3 := T1.out.2.cell (i := 3) rfl
               obtain ⟨d0, d1, d2, d3, d4, d5, d6, d7⟩ := T1.out.facts hB.out.1
               clear qq)
            | (go_at_call 67
               refine (L.out _).mono ?_
               rintro e w2 ⟨rfl, qq⟩
               have T2 : Hid (TokSt wr w2 #[Value.int .i64 0, Value.string ⟨#[]⟩, Value.int .i64 0, Value.int .i64 (k : Int)]) := zH ((T1.out).quiet qq)
               clear d0 d1 d2 d3 d4 d5 d6 d7 t0 t1 t2 t3
               have t0 := T2.out.2.cell (i := 0) rfl
               have t1 := T2.out.2.cell (i := 1) rfl
               have t2 := T2.out.2.cell (i := 2) rfl
               have t3 := T2.out.2.cell (i := 3) rfl
               obtain ⟨d0, d1, d2, d3, d4, d5, d6, d7⟩ := T2.out.facts hB.out.1
               clear qq)
            | (go_at_call 69
               refine (MK.out _ (hB.out.1.keep T2.out.1).2.2.2).mono ?_
               rintro e w3 ⟨rfl, qq⟩
               have T3 : Hid (TokSt wr w3 #[Value.int .i64 0, Value.string ⟨#[]⟩, Value.int .i64 0, Value.int .i64 (k : Int)]) := zH ((T2.out).quiet qq)
               clear d0 d1 d2 d3 d4 d5 d6 d7 t0 t1 t2 t3
               have t0 := T3.out.2.cell (i := 0) rfl
               have t1 := T3.out.2.cell (i := 1) rfl
               have t2 := T3.out.2.cell (i := 2) rfl
               have t3 := T3.out.2.cell (i := 3) rfl
               obtain ⟨d0, d1, d2, d3, d4, d5, d6, d7⟩ := T3.out.facts hB.out.1
               clear qq))
          go_region
          go_wp2_with (first
            | (at_builtin
               go_must (refine wpList_append_list rfl (.tmp 107) (.tmp 109) _ rfl (w.heap.size + 1 + 1) _ 127 j _ 4 40 Tryz.underlying102 I.out.1 I.out.2.1 I.out.2.2.1 I.out.2.2.2 rfl (by omega) (R := Tok.Is) (l := toks) (m := [⟨((5 : Nat) : Int), q1, 0, (k : Int)⟩]) (.slice oa on oc) rfl (by exact (hB.out.1.keep (((T3.out.set 0 (.int .i64 5)).set 1 (.string (txt q1))).alloc _).drew.1).2.2.1) (some ⟨w3.heap.size, 0, none⟩) 1 1 rfl (by exact SlR.drew_ (SlR.new1 (by simp [World.setCell]) rfl HT.out)) (a + 1) (by rw [hB.out.2]) Tok.Is.one (by rw [hB.out.2]; unfold maxLen; omega) (by rw [hB.out.2]; omega) (by simp [World.setCell]; omega) ?_)
               intro xa xc w9 hown hgr
               have ST9 : Hid (ScanSt w s k (.slice xa (a + 1) xc) (toks ++ [⟨((5 : Nat) : Int), q1, 0, (k : Int)⟩]) w9) := zH ((hB.out.1.keep (((T3.out.set 0 (.int .i64 5)).set 1 (.string (txt q1))).alloc _).drew.1).grown hgr hown)
               have e0 := ST9.out.2.1.cell (i := 0) rfl
               have e1 := ST9.out.2.1.frozen 0
               have e2 : w.heap.size + 1 < w9.heap.size := ST9.out.2.1.lt
               clear hown hgr d0 d1 d2 d3 d4 d5 d6 d7 t0 t1 t2 t3))
          have ST := ST9.out.at_ (k + q2) (u := .int .i64 ((k : Int) + (q2 : Int))) (by go_num)
          go_roundw
          case rel => exact ⟨k + q2, f - 1, a + 1, xa, a + 1, xc, _, by omega, by omega, by omega, rfl, HV.out, ST, by simp [hB.out.2]⟩
          case measure => rw [Hat.out, ST.cell_at]; omega
    · have hdec : decide (k < n) = false := by simp; omega
      have hdec2 : decide ((k : Int) < (n : Int)) = false := by simp; omega
      have hv := scan_end hu.out (by rw [Hn.out.2]; omega)
      have HV := zH hv
      clear hv hu
      go_wp2_with fail
      go_ret3
      exact ⟨oa, on, oc, by rw [HR.out.1, HV.out]; rfl, by rw [HR.out.1, HV.out]; exact hB.out.1.2.2.1.mono (by omega), hB.out.1.2.2.2⟩
end Go.Proofs.YtdkoafmgenbkbaaGreatDoor
namespace Go.Proofs.YtdkoafmgenbkbaaGreatDoor
inductive Tr where
  | node (kind : Nat) (text : List Nat) (num : Int) (kids : List Tr)
mutual
def Tr.size : Tr → Nat
  | .node _ _ _ ks => 1 + sizeL ks
def sizeL : List Tr → Nat
  | [] => 0
  | t :: ts => t.size + sizeL ts
end
mutual
def Tr.deep : Tr → Nat
  | .node _ _ _ ks => deepL ks + 1
def deepL : List Tr → Nat
  | [] => 0
  | t :: ts => max t.deep (deepL ts)
end
structure EN where
  kind : Nat
  text : List Nat
  num : Int
  kids : List Nat
  deriving DecidableEq
mutual
def Tr.flat : Tr → Nat → List EN
  | .node k s n ks, p => ⟨k, s, n, placesL ks (p + 1)⟩ :: flatL ks (p + 1)
def flatL : List Tr → Nat → List EN
  | [], _ => []
  | t :: ts, p => t.flat p ++ flatL ts (p + t.size)
def placesL : List Tr → Nat → List Nat
  | [], _ => []
  | t :: ts, p => p :: placesL ts (p + t.size)
end
mutual
theorem trFlat_len : ∀ (t : Tr) (p : Nat), (t.flat p).length = t.size
  | .node k s n ks, p => by simp only [Tr.flat, Tr.size, List.length_cons, trFlatL_len ks]; omega
theorem trFlatL_len : ∀ (l : List Tr) (p : Nat), (flatL l p).length = sizeL l
  | [], _ => rfl
  | t :: ts, p => by simp only [flatL, sizeL, List.length_append, trFlat_len t, trFlatL_len ts]
end
theorem size_pos (t : Tr) : 1 ≤ t.size := by cases t; simp only [Tr.size]; omega
inductive PR where
  | ok (t : Tr) (i : Nat)
  | no (i : Nat)
  | out
def orT : List Nat := [111, 114]
def andT : List Nat := [97, 110, 100]
def notT : List Nat := [110, 111, 116]
def openT : List Nat := [40]
def closeT : List Nat := [41]
def minusT : List Nat := [45]
def inT : List Nat := [105, 110]
def colonT : List Nat := [58]
def endT : List Nat := [101, 110, 100]
def thenT : List Nat := [116, 104, 101, 110]
def elseT : List Nat := [101, 108, 115, 101]
def signsL : List (List Nat × Nat × Nat) := [(orT, 28, 1), (andT, 27, 2), ([61, 61], 23, 4), ([33, 61], 24, 4), ([60], 25, 4), ([60, 61], 26, 4), ([43], 20, 5), ([45], 21, 5), ([42], 22, 6), ([46], 8, 7), ([35], 9, 7), ([45, 62], 10, 7), ([94], 11, 7), ([63], 12, 7), ([33, 33], 13, 7)]
def onesL : List (List Nat × Nat × Nat) := [([116, 114, 117, 101], 3, 0), ([102, 97, 108, 115, 101], 4, 0), ([115, 101, 108, 102], 5, 0), ([110, 111, 110, 101], 6, 0), ([115, 105, 122, 101], 14, 1), ([102, 105, 114, 115, 116], 15, 1), ([116, 101, 120, 116], 16, 1), ([99, 111, 110, 99, 101, 112, 116], 17, 1), ([105, 100], 18, 1), ([105, 110, 116], 19, 1), ([97, 110, 121], 31, 2), ([101, 118, 101, 114, 121], 32, 2), ([111, 110, 108, 121], 33, 2), ([115, 117, 109], 34, 2), ([105, 102], 30, 3)]
def oneN (s : List Nat) : Nat × Nat := match onesL.find? (fun x => decide (x.1 = s)) with
  | some x => x.2
  | none => (0, 0)
def isT (l : List Tok) (i : Nat) (s : List Nat) : Bool := match l[i]? with
  | some t => decide (4 ≤ t.kind) && decide (t.text = s)
  | none => false
def signK (l : List Tok) (n i : Nat) : Nat := match signsL.find? (fun x => decide (x.2.2 = n) && isT l i x.1) with
  | some x => x.2.1
  | none => 0
def PR.bind (r : PR) (g : Tr → Nat → PR) : PR := match r with
  | .ok t i => g t i
  | .no i => .no i
  | .out => .out
def want (l : List Tok) (i : Nat) (s : List Nat) (r : PR) : PR := if isT l i s then r else .no i
def nameAt (l : List Tok) (i : Nat) (g : List Nat → PR) : PR := match l[i]? with
  | some t => if t.kind = 3 then g t.text else .no i
  | none => .no i
mutual
def pL (l : List Tok) : Nat → Nat → Nat → PR
  | 0, _, _ => .out
  | f + 1, n, i =>
    if n = 3 then (if isT l i notT then (pL l f 3 (i + 1)).bind fun k j => .ok (.node 29 [] 0 [k]) j else pL l f 4 i)
    else if n = 7 then (pP l f i).bind fun t j => pQ l f t j
    else (pL l f (n + 1) i).bind fun t j => pR l f n t j
def pR (l : List Tok) : Nat → Nat → Tr → Nat → PR
  | 0, _, _, _ => .out
  | f + 1, n, t, i =>
    if signK l n i = 0 then .ok t i
    else (pL l f (n + 1) (i + 1)).bind fun r j => if n = 4 then .ok (.node (signK l n i) [] 0 [t, r]) j else pR l f n (.node (signK l n i) [] 0 [t, r]) j
def pQ (l : List Tok) : Nat → Tr → Nat → PR
  | 0, _, _ => .out
  | f + 1, t, i =>
    if signK l 7 i = 0 then .ok t i
    else if signK l 7 i = 11 then pQ l f (.node 11 [] 0 [t]) (i + 1)
    else nameAt l (i + 1) fun s => pQ l f (.node (signK l 7 i) s 0 [t]) (i + 2)
def pP (l : List Tok) : Nat → Nat → PR
  | 0, _ => .out
  | f + 1, i => match l[i]? with
    | none => .no i
    | some t =>
      if t.kind = 1 then .ok (.node 1 [] t.num []) (i + 1)
      else if t.kind = 2 then .ok (.node 2 t.text 0 []) (i + 1)
      else if t.kind = 3 then .ok (.node 7 t.text 0 []) (i + 1)
      else if t.kind = 5 then
        (if t.text = minusT then (match l[i + 1]? with
            | some x => if x.kind = 1 then .ok (.node 1 [] (-x.num) []) (i + 2) else .no (i + 1)
            | none => .no (i + 1))
          else if t.text = openT then (pL l f 1 (i + 1)).bind fun k j => want l j closeT (.ok k (j + 1))
          else .no i)
      else match oneN t.text with
        | (0, _) => .no i
        | (k, 0) => .ok (.node k [] 0 []) (i + 1)
        | (k, 1) => want l (i + 1) openT ((pL l f 1 (i + 2)).bind fun a j => want l j closeT (.ok (.node k [] 0 [a]) (j + 1)))
        | (k, 2) => nameAt l (i + 1) fun s => want l (i + 2) inT ((pL l f 1 (i + 3)).bind fun a j => want l j colonT ((pL l f 1 (j + 1)).bind fun b m => want l m endT (.ok (.node k s 0 [a, b]) (m + 1))))
        | (k, _) => (pL l f 1 (i + 1)).bind fun a j => want l j thenT ((pL l f 1 (j + 1)).bind fun b m => want l m elseT ((pL l f 1 (m + 1)).bind fun c q => want l q endT (.ok (.node k [] 0 [a, b, c]) (q + 1))))
end
def PR.In (r : PR) (l : List Tok) (i s : Nat) : Prop := match r with
  | .ok t j => i ≤ j ∧ j ≤ l.length ∧ t.size + i ≤ s + j
  | .no j => j ≤ l.length
  | .out => False
theorem isT_lt {l : List Tok} {i : Nat} {s : List Nat} (h : isT l i s = true) : i < l.length := by
  unfold isT at h
  cases hx : l[i]? with
  | none => rw [hx] at h; cases h
  | some t => exact (List.getElem?_eq_some_iff.1 hx).1
theorem signK_lt {l : List Tok} {n i : Nat} (h : signK l n i ≠ 0) : i < l.length := by
  unfold signK at h
  cases hx : signsL.find? (fun x => decide (x.2.2 = n) && isT l i x.1) with
  | none => rw [hx] at h; exact absurd rfl h
  | some x =>
    have := List.find?_some hx
    rw [Bool.and_eq_true] at this
    exact isT_lt this.2
theorem In_bind {r : PR} {l : List Tok} {i s i' s' : Nat} {g : Tr → Nat → PR} (h : r.In l i s) (hg : ∀ t j, i ≤ j → j ≤ l.length → t.size + i ≤ s + j → (g t j).In l i' s') : (r.bind g).In l i' s' := by
  cases r with
  | ok t j => exact hg t j h.1 h.2.1 h.2.2
  | no j => exact h
  | out => exact h
theorem In_want {l : List Tok} {i i' s' : Nat} {s : List Nat} {r : PR} (hi : i ≤ l.length) (h : i < l.length → r.In l i' s') : (want l i s r).In l i' s' := by
  unfold want
  split
  · rename_i hs; exact h (isT_lt hs)
  · exact hi
theorem In_name {l : List Tok} {i i' s' : Nat} {g : List Nat → PR} (hi : i ≤ l.length) (h : i < l.length → ∀ s, (g s).In l i' s') : (nameAt l i g).In l i' s' := by
  unfold nameAt
  cases hx : l[i]? with
  | none => exact hi
  | some t =>
    simp only
    split
    · exact h (List.getElem?_eq_some_iff.1 hx).1 _
    · exact hi
theorem p_told (l : List Tok) : ∀ f : Nat,
    (∀ n i, 1 ≤ n → n ≤ 7 → i ≤ l.length → 12 * (l.length - i) + (11 - n) ≤ f → (pL l f n i).In l (i + 1) 1) ∧
    (∀ n t i, 1 ≤ n → n ≤ 6 → i ≤ l.length → 12 * (l.length - i) + 1 ≤ f → (pR l f n t i).In l i t.size) ∧
    (∀ t i, i ≤ l.length → 12 * (l.length - i) + 1 ≤ f → (pQ l f t i).In l i t.size) ∧
    (∀ i, i ≤ l.length → 12 * (l.length - i) + 2 ≤ f → (pP l f i).In l (i + 1) 1) := by
  intro f
  induction f with
  | zero => exact ⟨fun n i _ _ _ h => by omega, fun n t i _ _ _ h => by omega, fun t i _ h => by omega, fun i _ h => by omega⟩
  | succ f ih =>
    obtain ⟨hL, hR, hQ, hP⟩ := ih
    refine ⟨fun n i h1 h7 hi hf => ?_, fun n t i h1 h6 hi hf => ?_, fun t i hi hf => ?_, fun i hi hf => ?_⟩
    · rw [pL]
      split
      · split
        · rename_i hs
          have := isT_lt hs
          refine In_bind (hL 3 (i + 1) (by omega) (by omega) (by omega) (by omega)) fun t j g1 g2 g3 => ?_
          simp only [PR.In, Tr.size, sizeL]; omega
        · exact hL 4 i (by omega) (by omega) hi (by omega)
      · split
        · refine In_bind (hP i hi (by omega)) fun t j g1 g2 g3 => ?_
          have := hQ t j g2 (by omega)
          revert this
          cases pQ l f t j with
          | ok u k => simp only [PR.In]; omega
          | no k => exact id
          | out => exact id
        · refine In_bind (hL (n + 1) i (by omega) (by omega) hi (by omega)) fun t j g1 g2 g3 => ?_
          have := hR n t j (by omega) (by omega) g2 (by omega)
          revert this
          cases pR l f n t j with
          | ok u k => simp only [PR.In]; omega
          | no k => exact id
          | out => exact id
    · rw [pR]
      split
      · simp only [PR.In]; omega
      · rename_i hs
        have := signK_lt hs
        refine In_bind (hL (n + 1) (i + 1) (by omega) (by omega) (by omega) (by omega)) fun r j g1 g2 g3 => ?_
        split
        · simp only [PR.In, Tr.size, sizeL]; omega
        · have := hR n (.node (signK l n i) [] 0 [t, r]) j (by omega) (by omega) g2 (by omega)
          revert this
          cases pR l f n (.node (signK l n i) [] 0 [t, r]) j with
          | ok u k => simp only [PR.In, Tr.size, sizeL]; omega
          | no k => exact id
          | out => exact id
    · rw [pQ]
      split
      · simp only [PR.In]; omega
      · rename_i hs
        have := signK_lt hs
        split
        · have := hQ (.node 11 [] 0 [t]) (i + 1) (by omega) (by omega)
          revert this
          cases pQ l f (.node 11 [] 0 [t]) (i + 1) with
          | ok u k => simp only [PR.In, Tr.size, sizeL]; omega
          | no k => exact id
          | out => exact id
        · refine In_name (by omega) fun hl s => ?_
          have := hQ (.node (signK l 7 i) s 0 [t]) (i + 2) (by omega) (by omega)
          revert this
          cases pQ l f (.node (signK l 7 i) s 0 [t]) (i + 2) with
          | ok u k => simp only [PR.In, Tr.size, sizeL]; omega
          | no k => exact id
          | out => exact id
    · rw [pP]
      have hL1 : ∀ j, i < j → j ≤ l.length → (pL l f 1 j).In l (j + 1) 1 := fun j h1 h2 => hL 1 j (by omega) (by omega) h2 (by omega)
      cases hx : l[i]? with
      | none => exact hi
      | some t =>
        have hlt := (List.getElem?_eq_some_iff.1 hx).1
        have one : ∀ k s v, (PR.ok (.node k s v []) (i + 1)).In l (i + 1) 1 := fun k s v => by simp only [PR.In, Tr.size, sizeL]; omega
        simp only
        split
        · exact one _ _ _
        split
        · exact one _ _ _
        split
        · exact one _ _ _
        split
        · split
          · cases hy : l[i + 1]? with
            | none => exact hlt
            | some x =>
              have := (List.getElem?_eq_some_iff.1 hy).1
              simp only
              split
              · simp only [PR.In, Tr.size, sizeL]; omega
              · exact hlt
          split
          · refine In_bind (hL1 (i + 1) (by omega) (by omega)) fun k j g1 g2 g3 => In_want g2 fun _ => ?_
            simp only [PR.In]; omega
          · exact hi
        · split
          · exact hi
          · exact one _ _ _
          · refine In_want hlt fun _ => In_bind (hL1 (i + 2) (by omega) (by omega)) fun k j g1 g2 g3 => In_want g2 fun _ => ?_
            simp only [PR.In, Tr.size, sizeL]; omega
          · refine In_name hlt fun _ s => In_want (by omega) fun _ => In_bind (hL1 (i + 3) (by omega) (by omega)) fun a j g1 g2 g3 => In_want g2 fun _ => In_bind (hL1 (j + 1) (by omega) (by omega)) fun b m k1 k2 k3 => In_want k2 fun _ => ?_
            simp only [PR.In, Tr.size, sizeL]; omega
          · refine In_bind (hL1 (i + 1) (by omega) (by omega)) fun a j g1 g2 g3 => In_want g2 fun _ => In_bind (hL1 (j + 1) (by omega) (by omega)) fun b m k1 k2 k3 => In_want k2 fun _ => In_bind (hL1 (m + 1) (by omega) (by omega)) fun c q m1 m2 m3 => In_want m2 fun _ => ?_
            simp only [PR.In, Tr.size, sizeL]; omega
def parseT (l : List Tok) : PR := (pL l (12 * l.length + 10) 1 0).bind fun t i => if i < l.length then .no i else .ok t i
def parseN (s : List Nat) : List EN × Nat × Nat :=
  if (scanN s).2.2 ≠ 0 then ([], (scanN s).2.1, (scanN s).2.2)
  else match parseT (scanN s).1 with
    | .ok t _ => if 256 < t.size ∨ 32 < t.deep then ([], 0, 4) else (t.flat 0, 0, 0)
    | .no i => ([], (match (scanN s).1[i]? with | some x => x.place.toNat | none => s.length), 80)
    | .out => ([], 0, 0)
theorem parse_told (l : List Tok) : (pL l (12 * l.length + 10) 1 0).In l 1 1 := by
  have := (p_told l (12 * l.length + 10)).1 1 0 (by omega) (by omega) (by omega) (by omega)
  simpa using this
end Go.Proofs.YtdkoafmgenbkbaaGreatDoor
namespace Go.Proofs.YtdkoafmgenbkbaaGreatDoor
open Go.RowKit
structure Mv (q : Nat) (W W' : World) : Prop where
  low : Below q W W'
  high : ∀ k, q < k → k < W.heap.size → W'.heap[k]? = W.heap[k]?
theorem Mv.refl (q : Nat) (W : World) : Mv q W W := ⟨zB, fun _ _ _ => rfl⟩
theorem Mv.trans {q : Nat} {a b c : World} (h : Mv q a b) (k : Mv q b c) : Mv q a c :=
  ⟨h.low.trans k.low, fun j h1 h2 => (k.high j h1 (Nat.lt_of_lt_of_le h2 h.low.size)).trans (h.high j h1 h2)⟩
theorem Mv.of_below {q : Nat} {W W' : World} (hb : Below W.heap.size W W') (hq : q ≤ W.heap.size) : Mv q W W' := ⟨hb.mono hq, fun k _ h => hb.block k h⟩
theorem Mv.set (q : Nat) (W : World) (i : Nat) (u : Value) : Mv q W (W.setCell ⟨q, i, none⟩ u) :=
  ⟨(Below.refl q W).setCell (p := ⟨q, i, none⟩) (Nat.le_refl q) u, fun k h _ => Below.heap_setCell W ⟨q, i, none⟩ u k (by show k ≠ q; omega)⟩
theorem Mv.blk {q : Nat} {W W' : World} {g : Nat} {t : TypeId} {cs : Array Value} (h : Mv q W W') (hb : Blk W g t cs) (hg : q < g) : Blk W' g t cs := (h.high g hg hb.lt).trans hb
def signsV : Array Value := (signsL.map fun x => [Value.string (txt x.1), .int .i64 (x.2.1 : Int), .int .i64 (x.2.2 : Int)]).flatten.toArray
def Signs (w : World) : Prop := w.var? Tryz.prog "topiary/expr.signs" = some signsV
theorem signs_block {w : World} (h : Signs w) : ∃ t fr, w.heap[3]? = some (.cells signsV t fr) := by
  unfold Signs World.var? at h
  rw [show Tryz.prog.globalNamed "topiary/expr.signs" = some 3 by kernel_rfl] at h
  simp only [Option.bind_some] at h
  cases hh : w.heap[3]? with
  | none => rw [hh] at h; cases h
  | some o =>
    rw [hh] at h
    cases o with
    | cells cs t fr => simp only [Option.some.injEq] at h; subst h; exact ⟨t, fr, rfl⟩
    | _ => cases h
theorem Signs.of_block {w w' : World} (h : Signs w) (hb : w'.heap[3]? = w.heap[3]?) : Signs w' := by
  unfold Signs World.var? at h ⊢
  rw [show Tryz.prog.globalNamed "topiary/expr.signs" = some 3 by kernel_rfl] at h ⊢
  simp only [Option.bind_some] at h ⊢
  rw [hb]
  exact h
def TokG (t : Tok) : Prop := (t.kind = 1 ∧ 0 ≤ t.num) ∨ t.kind = 2 ∨ t.kind = 3 ∨ (t.kind = 4 ∧ t.text ∈ wordsL) ∨ (t.kind = 5 ∧ t.text ∈ marksL)
theorem TokG.range {t : Tok} (h : TokG t) : 1 ≤ t.kind ∧ t.kind ≤ 5 := by unfold TokG at h; omega
def placeAt (l : List Tok) (sz i : Nat) : Int := match l[i]? with
  | some t => t.place
  | none => (sz : Int)
def thrownE (k : Int) : List PanicEntry := [{ v := .iface 106 (.agg #[.int .i64 k]), recovered := false }]
structure PSt (q : Nat) (a : Option Addr) (c sz : Nat) (l : List Tok) (i : Nat) (W : World) : Prop where
  toks : SlR W q 4 Tok.Is (.slice a l.length c) l
  box : Blk W q 110 #[.slice a l.length c, .int .i64 (i : Int), .int .i64 (sz : Int)]
  low : 3 < q
  signs : Signs W
  le : i ≤ l.length
  few : l.length ≤ 4097
  good : ∀ t ∈ l, TokG t
section
variable {q : Nat} {a : Option Addr} {c sz : Nat} {l : List Tok} {i : Nat} {W W' : World}
theorem PSt.mv {j : Nat} (h : PSt q a c sz l i W) (hm : Below q W W') (hb : Blk W' q 110 #[.slice a l.length c, .int .i64 (j : Int), .int .i64 (sz : Int)]) (hj : j ≤ l.length) : PSt q a c sz l j W' :=
  ⟨h.toks.below hm, hb, h.low, h.signs.of_block (hm.block 3 h.low), hj, h.few, h.good⟩
theorem PSt.keep (h : PSt q a c sz l i W) (hb : Below W.heap.size W W') : PSt q a c sz l i W' :=
  h.mv (hb.mono (Nat.le_of_lt h.box.lt)) (h.box.below hb h.box.lt) h.le
theorem PSt.set (h : PSt q a c sz l i W) {j : Nat} {u : Value} (hu : u = .int .i64 (j : Int)) (hj : j ≤ l.length) : PSt q a c sz l j (W.setCell ⟨q, 1, none⟩ u) := by
  subst hu
  exact h.mv (Mv.set _ _ _ _).low (h.box.set_ 1 _) hj
theorem PSt.facts (h : PSt q a c sz l i W) : W.cell? ⟨q, 0, none⟩ = some (.slice a l.length c) ∧ W.cell? ⟨q, 1, none⟩ = some (.int .i64 (i : Int)) ∧ W.cell? ⟨q, 2, none⟩ = some (.int .i64 (sz : Int)) ∧ W.frozen? ⟨q, 1, none⟩ = false ∧ q < W.heap.size :=
  ⟨h.box.cell rfl, h.box.cell rfl, h.box.cell rfl, h.box.frozen 1, h.box.lt⟩
theorem PSt.tok (h : PSt q a c sz l i W) {k : Nat} {t : Tok} (ht : l[k]? = some t) : ∃ b off, a = some ⟨b, off, none⟩ ∧ W.cell? ⟨b, off + k * 4, none⟩ = some (.int .i64 t.kind) ∧ W.cell? ⟨b, off + k * 4 + 1, none⟩ = some (.string (txt t.text)) ∧ W.cell? ⟨b, off + k * 4 + 2, none⟩ = some (.int .i64 t.num) ∧ W.cell? ⟨b, off + k * 4 + 3, none⟩ = some (.int .i64 t.place) ∧ t.ok := by
  obtain ⟨b, off, x, ha, _, hx, ⟨rfl, hok⟩, hc⟩ := h.toks.at_ ht
  refine ⟨b, off, ha, ?_, hc 1 _ rfl, hc 2 _ rfl, hc 3 _ rfl, hok⟩
  have := hc 0 _ rfl
  rwa [Nat.add_zero] at this
end
theorem txt_inj {s t : List Nat} (hs : Bytes s) (ht : Bytes t) (h : (txt s).toList = (txt t).toList) : s = t := by
  have h1 := (toList_inj _ _).1 h
  rw [← bs_txt hs, ← bs_txt ht, h1]
theorem PSt.bytes {q : Nat} {a : Option Addr} {c sz : Nat} {l : List Tok} {i : Nat} {W : World} (h : PSt q a c sz l i W) {k : Nat} {t : Tok} (ht : l[k]? = some t) : Bytes t.text := by
  obtain ⟨_, _, _, _, _, _, _, hok⟩ := h.tok ht
  exact hok.1
theorem p_next {q : Nat} {a : Option Addr} {c sz : Nat} {l : List Tok} {i : Nat} {W : World} (s : List Nat) (hs : Bytes s) (b : Bool) (hb : isT l i s = b) (h : PSt q a c sz l i W) :
    Calls Tryz.prog 100 #[.pointer (some ⟨q, 0, none⟩), .string (txt s)] W fun e w' => e = .returned (.bool b) ∧ Quiet W w' := by
  obtain ⟨f0, f1, f2, f3, f4⟩ := h.facts
  obtain ⟨n, hn⟩ : ∃ n, l.length = n := ⟨_, rfl⟩
  have hle := h.le
  have hfew := h.few
  rw [hn] at f0 hle hfew
  have n63 : n ≤ 9223372036854775807 := by omega
  by_cases hlt : i < n
  · obtain ⟨t, ht⟩ := get_some hn hlt
    obtain ⟨b0, off, rfl, t0, t1, _, _, hok⟩ := h.tok ht
    have hk := (h.good t (List.mem_iff_getElem?.2 ⟨i, ht⟩)).range
    have hB : b = (decide (4 ≤ t.kind) && decide (t.text = s)) := by rw [← hb]; unfold isT; rw [ht]
    obtain ⟨kd, hkd⟩ : ∃ k, t.kind = k := ⟨_, rfl⟩
    obtain ⟨tt, htt⟩ : ∃ k, t.text = k := ⟨_, rfl⟩
    have htb := hok.1
    rw [hkd] at t0 hk hB
    rw [htt] at t1 hB htb
    have HB := zH hB
    clear h hb hn ht hkd htt hok hB
    have dlt : decide (i < n) = true := by simpa using hlt
    by_cases hts : tt = s
    · subst hts
      by_cases h5 : kd = 5
      · subst h5
        have Hk := zH hk
        clear hk
        go_enter Tryz.func100, Tryz.ntmps100
        go_wp2_with fail
        go_quiet (fail)
        go_wp2_with fail
        go_ret
        exact ⟨by rw [HB.out]; simp, ⟨_, rfl⟩⟩
      · have e5 : (kd == 5) = false := by simpa using h5
        by_cases h4 : kd = 4
        · subst h4
          have Hk := zH hk
          clear hk h5
          go_enter Tryz.func100, Tryz.ntmps100
          go_wp2_with fail
          go_quiet (fail)
          go_wp2_with fail
          go_ret
          exact ⟨by rw [HB.out]; simp, ⟨_, rfl⟩⟩
        · have e4 : (kd == 4) = false := by simpa using h4
          have h3 : decide (4 ≤ kd) = false := by simp; omega
          have Hk := zH hk
          rw [h3] at HB
          clear hk h3
          go_enter Tryz.func100, Tryz.ntmps100
          go_wp2_with fail
          go_quiet (fail)
          go_wp2_with fail
          go_ret
          exact ⟨by rw [HB.out]; simp, ⟨_, rfl⟩⟩
    · have hne : ¬ (txt tt).toList = (txt s).toList := fun e => hts (txt_inj htb hs e)
      have hd : decide (tt = s) = false := by simpa using hts
      rw [hd, Bool.and_false] at HB
      clear hts hd htb hs
      by_cases h5 : kd = 5
      · subst h5
        have Hk := zH hk
        clear hk
        go_enter Tryz.func100, Tryz.ntmps100
        go_wp2_with fail
        go_quiet (fail)
        go_wp2_with fail
        go_ret
        exact ⟨by rw [HB.out]; try simp [hne], ⟨_, rfl⟩⟩
      · have e5 : (kd == 5) = false := by simpa using h5
        by_cases h4 : kd = 4
        · subst h4
          have Hk := zH hk
          clear hk h5
          go_enter Tryz.func100, Tryz.ntmps100
          go_wp2_with fail
          go_quiet (fail)
          go_wp2_with fail
          go_ret
          exact ⟨by rw [HB.out]; try simp [hne], ⟨_, rfl⟩⟩
        · have e4 : (kd == 4) = false := by simpa using h4
          have Hk := zH hk
          clear hk
          go_enter Tryz.func100, Tryz.ntmps100
          go_wp2_with fail
          go_quiet (fail)
          go_wp2_with fail
          go_ret
          exact ⟨by have hb := HB.out; subst hb; rfl, ⟨_, rfl⟩⟩
  · have hB : b = false := by rw [← hb]; unfold isT; rw [List.getElem?_eq_none (by omega)]
    obtain rfl : i = n := by omega
    have dlt : decide (i < i) = false := by simp
    have HB := zH hB
    clear h hb hn hB hlt
    go_enter Tryz.func100, Tryz.ntmps100
    go_wp2_with fail
    go_quiet (fail)
    go_wp2_with fail
    go_ret
    exact ⟨by have hb := HB.out; subst hb; rfl, ⟨_, rfl⟩⟩
end Go.Proofs.YtdkoafmgenbkbaaGreatDoor
namespace Go.Proofs.YtdkoafmgenbkbaaGreatDoor
open Go.RowKit
structure High (lo : Nat) (w w' : World) : Prop where
  size : w.heap.size ≤ w'.heap.size
  same : ∀ k, lo ≤ k → k < w.heap.size → w'.heap[k]? = w.heap[k]?
theorem High.refl (lo : Nat) (w : World) : High lo w w := ⟨Nat.le_refl _, fun _ _ _ => rfl⟩
theorem High.trans {lo : Nat} {a b c : World} (h : High lo a b) (k : High lo b c) : High lo a c :=
  ⟨Nat.le_trans h.size k.size, fun j h1 h2 => (k.same j h1 (Nat.lt_of_lt_of_le h2 h.size)).trans (h.same j h1 h2)⟩
theorem High.mono {lo lo' : Nat} {a b : World} (h : High lo a b) (hl : lo ≤ lo') : High lo' a b := ⟨h.size, fun k h1 h2 => h.same k (Nat.le_trans hl h1) h2⟩
theorem High.of_mv {q : Nat} {W W' : World} (h : Mv q W W') {lo : Nat} (hl : q < lo) : High lo W W' := ⟨h.low.size, fun k h1 h2 => h.high k (Nat.lt_of_lt_of_le hl h1) h2⟩
theorem High.of_below {W W' : World} {B : Nat} (h : Below B W W') (hB : W.heap.size ≤ B) (lo : Nat) : High lo W W' := ⟨h.size, fun k _ h2 => h.block k (Nat.lt_of_lt_of_le h2 hB)⟩
theorem Own1.stay {α : Type} {w w' : World} {lo size : Nat} {e : TypeId} {R : List Value → α → Prop} {v : Value} {l : List α} (h : Own1 w lo e size R v l) (hk : ∀ b, v.ownBlock = some b → b < w.heap.size → w'.heap[b]? = w.heap[b]?) : Own1 w' lo e size R v l := by
  obtain ⟨xs, h1, h2⟩ := h
  refine ⟨xs, ⟨h1.1, ?_⟩, h2⟩
  rcases h1.2 with r | ⟨g, cap, cur, r1, r2, r3, r4⟩
  · exact .inl r
  · have hg : g < w.heap.size := by
      rcases Nat.lt_or_ge g w.heap.size with hlt | hge
      · exact hlt
      · rw [Array.getElem?_eq_none hge] at r3; cases r3
    exact .inr ⟨g, cap, cur, r1, r2, (hk g (by rw [r1]; rfl) hg).trans r3, r4⟩
def IsPtr : List Value → Nat → Prop := fun x g => x = [.pointer (some ⟨g, 0, none⟩)]
mutual
def TreeIn (w : World) (S : Nat → Prop) : Tr → Nat → Prop
  | .node k s n ks, g => S g ∧ ∃ (v : Value) (gs : List Nat), Blk w g 135 #[.int .i64 (k : Int), .string (txt s), .int .i64 n, .slice none 0 0, v] ∧ Own1 w 0 111 1 IsPtr v gs ∧ (∀ b, v.ownBlock = some b → S b) ∧ TreesIn w S ks gs
def TreesIn (w : World) (S : Nat → Prop) : List Tr → List Nat → Prop
  | [], gs => gs = []
  | t :: ts, gs => ∃ g gs', gs = g :: gs' ∧ TreeIn w S t g ∧ TreesIn w S ts gs'
end
def TreeAt (w : World) (lo : Nat) (t : Tr) (g : Nat) : Prop := TreeIn w (fun k => lo ≤ k) t g
mutual
theorem TreeIn.stay {w w' : World} {S : Nat → Prop} (hk : ∀ k, S k → k < w.heap.size → w'.heap[k]? = w.heap[k]?) : ∀ {t : Tr} {g : Nat}, TreeIn w S t g → TreeIn w' S t g
  | .node k s n ks, g, h => by
    simp only [TreeIn] at h ⊢
    obtain ⟨h1, v, gs, h2, h3, h5, h4⟩ := h
    exact ⟨h1, v, gs, h2.keep (hk g h1 h2.lt), h3.stay (fun b hb hl => hk b (h5 b hb) hl), h5, TreesIn.stay hk h4⟩
theorem TreesIn.stay {w w' : World} {S : Nat → Prop} (hk : ∀ k, S k → k < w.heap.size → w'.heap[k]? = w.heap[k]?) : ∀ {ts : List Tr} {gs : List Nat}, TreesIn w S ts gs → TreesIn w' S ts gs
  | [], gs, h => by simp only [TreesIn] at h ⊢; exact h
  | t :: ts, gs, h => by
    simp only [TreesIn] at h ⊢
    obtain ⟨g, gs', h1, h2, h3⟩ := h
    exact ⟨g, gs', h1, h2.stay hk, TreesIn.stay hk h3⟩
end
mutual
theorem TreeIn.imp {w : World} {S S' : Nat → Prop} (hl : ∀ k, S k → k < w.heap.size → S' k) : ∀ {t : Tr} {g : Nat}, TreeIn w S t g → TreeIn w S' t g
  | .node k s n ks, g, h => by
    simp only [TreeIn] at h ⊢
    obtain ⟨h1, v, gs, h2, h3, h5, h4⟩ := h
    exact ⟨hl _ h1 h2.lt, v, gs, h2, h3, fun b hb => hl _ (h5 b hb) (h3.block b hb).2, TreesIn.imp hl h4⟩
theorem TreesIn.imp {w : World} {S S' : Nat → Prop} (hl : ∀ k, S k → k < w.heap.size → S' k) : ∀ {ts : List Tr} {gs : List Nat}, TreesIn w S ts gs → TreesIn w S' ts gs
  | [], gs, h => by simp only [TreesIn] at h ⊢; exact h
  | t :: ts, gs, h => by
    simp only [TreesIn] at h ⊢
    obtain ⟨g, gs', h1, h2, h3⟩ := h
    exact ⟨g, gs', h1, h2.imp hl, TreesIn.imp hl h3⟩
end
theorem TreesIn.app {w : World} {S : Nat → Prop} : ∀ {ts : List Tr} {gs : List Nat} {t : Tr} {g : Nat}, TreesIn w S ts gs → TreeIn w S t g → TreesIn w S (ts ++ [t]) (gs ++ [g])
  | [], gs, t, g, h, ht => by
    simp only [TreesIn] at h
    subst h
    simp only [List.nil_append, TreesIn]
    exact ⟨g, [], rfl, ht, rfl⟩
  | u :: ts, gs, t, g, h, ht => by
    simp only [TreesIn] at h
    obtain ⟨g', gs', rfl, h2, h3⟩ := h
    simp only [List.cons_append, TreesIn]
    exact ⟨g', gs' ++ [g], rfl, h2, TreesIn.app h3 ht⟩
theorem TreeAt.high {w w' : World} {lo : Nat} (hk : High lo w w') {t : Tr} {g : Nat} (h : TreeAt w lo t g) : TreeAt w' lo t g := TreeIn.stay (fun k h1 h2 => hk.same k h1 h2) h
theorem TreeAt.mono {w : World} {lo lo' : Nat} (hl : lo' ≤ lo) {t : Tr} {g : Nat} (h : TreeAt w lo t g) : TreeAt w lo' t g := TreeIn.imp (fun _ h1 _ => Nat.le_trans hl h1) h
theorem TreeIn.lo {w : World} {S : Nat → Prop} {t : Tr} {g : Nat} (h : TreeIn w S t g) : S g ∧ g < w.heap.size := by
  cases t with
  | node k s n ks =>
    simp only [TreeIn] at h
    obtain ⟨h1, v, gs, h2, _⟩ := h
    exact ⟨h1, h2.lt⟩
theorem p_of (k : Nat) (s : List Nat) (a : Option Addr) (n c : Nat) (W : World) : Calls Tryz.prog 85 #[.int .i64 (k : Int), .string (txt s), .slice a n c] W fun e w' =>
    e = .returned (.pointer (some ⟨W.heap.size, 0, none⟩)) ∧ w' = W.alloc (.cells #[.int .i64 (k : Int), .string (txt s), .int .i64 0, .slice none 0 0, .slice a n c] 135) := by
  go_enter Tryz.func85, Tryz.ntmps85
  go_wp2_with fail
  go_ret
  exact ⟨rfl, rfl⟩
end Go.Proofs.YtdkoafmgenbkbaaGreatDoor
namespace Go.Proofs.YtdkoafmgenbkbaaGreatDoor
open Go.RowKit
section
variable {q : Nat} {a : Option Addr} {c sz : Nat} {l : List Tok} {i : Nat} {W : World}
theorem PSt.quiet {W' : World} (h : PSt q a c sz l i W) (hq : Quiet W W') : PSt q a c sz l i W' := h.keep (hq.below _)
theorem Mv.quiet {W' : World} (hq : Quiet W W') : Mv q W W' := by
  obtain ⟨n, rfl⟩ := hq
  exact ⟨below_drewN zB n, fun k _ _ => rfl⟩
theorem PSt.step (h : PSt q a c sz l i W) {j : Nat} {u : Value} (hu : u = .int .i64 (j : Int)) (hj : j ≤ l.length) (n : Nat) : Mv q W ((W.drewN n).setCell ⟨q, 1, none⟩ u) ∧ PSt q a c sz l j ((W.drewN n).setCell ⟨q, 1, none⟩ u) :=
  ⟨(Mv.quiet ⟨n, rfl⟩).trans (Mv.set _ _ _ _), (h.quiet ⟨n, rfl⟩).set hu hj⟩
theorem p_give (h : PSt q a c sz l i W) : Calls Tryz.prog 52 #[.pointer (some ⟨q, 0, none⟩)] W fun e w' => e = .panicked (thrownE (placeAt l sz i)) ∧ Quiet W w' := by
  obtain ⟨f0, f1, f2, f3, f4⟩ := h.facts
  obtain ⟨n, hn⟩ : ∃ n, l.length = n := ⟨_, rfl⟩
  have hle := h.le
  have hfew := h.few
  rw [hn] at f0 hle hfew
  have n63 : n ≤ 9223372036854775807 := by omega
  have i0 : (0 : Int) ≤ (i : Int) := Int.natCast_nonneg _
  by_cases hlt : i < n
  · obtain ⟨t, ht⟩ := get_some hn hlt
    obtain ⟨b0, off, rfl, t0, t1, t2, t3, hok⟩ := h.tok ht
    have hB : placeAt l sz i = t.place := by unfold placeAt; rw [ht]
    obtain ⟨pl, hpl⟩ : ∃ k, t.place = k := ⟨_, rfl⟩
    rw [hpl] at t3 hB
    have HB := zH hB
    have dlt : decide (i < n) = true := by simpa using hlt
    have dlt2 : (i : Int) < (n : Int) := by omega
    clear h hn ht hpl hok hB t0 t1 t2
    go_enter Tryz.func52, Tryz.ntmps52
    go_wp2_with fail
    go_quiet (fail)
    go_wp2_with fail
    generalize hwq : World.drewN W _ = W1
    have g0 : W1.cell? ⟨q, 0, none⟩ = some (.slice (some ⟨b0, off, none⟩) n c) := by rw [← hwq]; exact f0
    have g1 : W1.cell? ⟨q, 1, none⟩ = some (.int .i64 (i : Int)) := by rw [← hwq]; exact f1
    have g3 : W1.cell? ⟨b0, off + i * 4 + 3, none⟩ = some (.int .i64 pl) := by rw [← hwq]; exact t3
    have QW : Hid (Quiet W W1) := zH ⟨_, hwq.symm⟩
    clear hwq f0 f1 f2 f3 f4 t3
    go_still_tail 13, (by kernel_rfl)
    change wpList _ _ _ _ _ W1.drew
    go_wp2_with fail
    exact ⟨rfl, by rw [HB.out]; rfl, QW.out.drewN 1⟩
  · obtain rfl : i = n := by omega
    have hB : placeAt l sz i = (sz : Int) := by unfold placeAt; rw [List.getElem?_eq_none (by omega)]
    have HB := zH hB
    have dlt : decide (i < i) = false := by simp
    clear h hn hB hlt
    go_enter Tryz.func52, Tryz.ntmps52
    go_wp2_with fail
    go_quiet (fail)
    rename_i hK
    refine hK _ _ ?_
    go_wp2_with fail
    exact ⟨rfl, by rw [HB.out]; rfl, ⟨_, rfl⟩⟩
theorem p_want_yes (s : List Nat) (hs : Bytes s) (ht : isT l i s = true) (h : PSt q a c sz l i W) : Calls Tryz.prog 122 #[.pointer (some ⟨q, 0, none⟩), .string (txt s)] W fun e w' => e = .returned (.tuple #[]) ∧ Mv q W w' ∧ PSt q a c sz l (i + 1) w' := by
  obtain ⟨f0, f1, f2, f3, f4⟩ := h.facts
  have hlt : i + 1 ≤ l.length := isT_lt ht
  have hfew := h.few
  have i63 : (i : Int) ≤ 5000 := by omega
  have i0 : (0 : Int) ≤ (i : Int) := Int.natCast_nonneg _
  have H := zH h
  have HN := zH (p_next s hs true ht h)
  clear h ht hfew
  go_enter Tryz.func122, Tryz.ntmps122
  go_wp2_with (go_at_call 100; (with_reducible refine HN.out.mono ?_); rintro e w1 ⟨rfl, nq, rfl⟩)
  go_end0
  exact ⟨rfl, H.out.step (j := i + 1) (by go_num) hlt nq⟩
theorem p_want_no (s : List Nat) (hs : Bytes s) (ht : isT l i s = false) (h : PSt q a c sz l i W) : Calls Tryz.prog 122 #[.pointer (some ⟨q, 0, none⟩), .string (txt s)] W fun e w' => e = .panicked (thrownE (placeAt l sz i)) ∧ Quiet W w' := by
  have H := zH h
  have HN := zH (p_next s hs false ht h)
  clear h ht
  go_enter Tryz.func122, Tryz.ntmps122
  go_wp2_with (first
    | (go_at_call 100; (with_reducible refine HN.out.mono ?_); rintro e w1 ⟨rfl, nq, rfl⟩; have Q1 : Hid (Quiet W (W.drewN nq)) := zH ⟨nq, rfl⟩)
    | (go_at_call 52; (with_reducible refine (p_give (H.out.quiet Q1.out)).mono ?_); rintro e w2 ⟨rfl, q2⟩; have Q2 := zH (Q1.out.trans q2); clear q2))
  exact ⟨rfl, rfl, Q2.out⟩
theorem p_name_yes {t : Tok} (ht : l[i]? = some t) (hk : t.kind = 3) (h : PSt q a c sz l i W) : Calls Tryz.prog 119 #[.pointer (some ⟨q, 0, none⟩)] W fun e w' => e = .returned (.string (txt t.text)) ∧ Mv q W w' ∧ PSt q a c sz l (i + 1) w' := by
  obtain ⟨f0, f1, f2, f3, f4⟩ := h.facts
  have hfew := h.few
  have hlt := (List.getElem?_eq_some_iff.1 ht).1
  obtain ⟨b0, off, rfl, t0, t1, _, _, hok⟩ := h.tok ht
  rw [hk] at t0
  have H := zH h
  obtain ⟨n, hn⟩ : ∃ n, l.length = n := ⟨_, rfl⟩
  have Hn := zH hn
  rw [hn] at f0 hlt hfew
  have n63 : n ≤ 9223372036854775807 := by omega
  have i0 : (0 : Int) ≤ (i : Int) := Int.natCast_nonneg _
  have i5 : (i : Int) ≤ 5000 := by omega
  have dlt : ((i : Int) == (n : Int)) = false := by simp; omega
  have dlt2 : (i : Int) < (n : Int) := by omega
  obtain ⟨tt, htt⟩ : ∃ k, t.text = k := ⟨_, rfl⟩
  rw [htt] at t1 ⊢
  have HTT := zH htt
  have HT := zH ht
  clear h ht hk hn hok htt
  go_enter Tryz.func119, Tryz.ntmps119
  go_wp2_with fail
  go_quiet (fail)
  rename_i nq
  go_wp2_with fail
  have hS := H.out.step (j := i + 1) (u := .int .i64 ((i : Int) + 1)) (by go_num) (by rw [Hn.out]; omega)
  generalize hwq : World.setCell _ _ _ = W1
  have hS1 := hS nq
  rw [hwq] at hS1
  obtain ⟨g0, g1, g2, g3, g4⟩ := hS1.2.facts
  obtain ⟨b1, o1, e1, t0', t1', _, _, _⟩ := hS1.2.tok HT.out
  injection e1 with e1
  injection e1 with e1 e2
  subst e1 e2
  rw [HTT.out] at t1'
  rw [Hn.out] at g0
  have HS := zH hS1
  have ws : IntKind.i64.wrap ((i : Int) + 1 - 1) = (i : Int) := by rw [IntKind.wrap_i64]; omega
  clear hwq hS hS1 f0 f1 f2 f3 f4 t0 t1 t0' g2 g3 g4
  have g1' : W1.cell? ⟨q, 1, none⟩ = some (.int .i64 ((i : Int) + 1)) := g1
  clear g1
  go_quiet (fail)
  go_wp2_with fail
  go_ret
  exact ⟨rfl, HS.out.1.trans (Mv.quiet ⟨_, rfl⟩), HS.out.2.quiet ⟨_, rfl⟩⟩
theorem p_name_no (hk : ∀ t, l[i]? = some t → t.kind ≠ 3) (h : PSt q a c sz l i W) : Calls Tryz.prog 119 #[.pointer (some ⟨q, 0, none⟩)] W fun e w' => e = .panicked (thrownE (placeAt l sz i)) ∧ Quiet W w' := by
  obtain ⟨f0, f1, f2, f3, f4⟩ := h.facts
  have hfew := h.few
  have hle := h.le
  have H := zH h
  obtain ⟨n, hn⟩ : ∃ n, l.length = n := ⟨_, rfl⟩
  rw [hn] at f0 hle hfew
  have n63 : n ≤ 9223372036854775807 := by omega
  have i0 : (0 : Int) ≤ (i : Int) := Int.natCast_nonneg _
  by_cases hlt : i < n
  · obtain ⟨t, ht⟩ := get_some hn hlt
    obtain ⟨b0, off, rfl, t0, _, _, _, _⟩ := h.tok ht
    have hk3 := hk t ht
    obtain ⟨kd, hkd⟩ : ∃ k, t.kind = k := ⟨_, rfl⟩
    rw [hkd] at t0 hk3
    have dlt : ((i : Int) == (n : Int)) = false := by simp; omega
    have dlt2 : (i : Int) < (n : Int) := by omega
    have d3 : (kd != 3) = true := by simpa using hk3
    have d4 : (kd == 3) = false := by simpa using hk3
    clear h ht hk hn hkd hk3
    go_enter Tryz.func119, Tryz.ntmps119
    go_wp2_with fail
    go_quiet (fail)
    rename_i nq
    have Q1 : Hid (Quiet W (W.drewN nq)) := zH ⟨nq, rfl⟩
    go_wp2_with (first
      | (go_at_call 52; (with_reducible refine (p_give (H.out.quiet Q1.out)).mono ?_); rintro e w2 ⟨rfl, q2⟩; have Q2 := zH (Q1.out.trans q2); clear q2))
    exact ⟨rfl, rfl, Q2.out⟩
  · obtain rfl : i = n := by omega
    clear h hk hlt hn
    go_enter Tryz.func119, Tryz.ntmps119
    go_wp2_with fail
    go_quiet (fail)
    rename_i nq
    have Q1 : Hid (Quiet W (W.drewN nq)) := zH ⟨nq, rfl⟩
    go_wp2_with (first
      | (go_at_call 52; (with_reducible refine (p_give (H.out.quiet Q1.out)).mono ?_); rintro e w2 ⟨rfl, q2⟩; have Q2 := zH (Q1.out.trans q2); clear q2))
    exact ⟨rfl, rfl, Q2.out⟩
end
end Go.Proofs.YtdkoafmgenbkbaaGreatDoor
namespace Go.Proofs.YtdkoafmgenbkbaaGreatDoor
open Go.RowKit
theorem find_drop1 {α : Type} {p : α → Bool} {l : List α} {k : Nat} {m : α} (h : l[k]? = some m) : (l.drop k).find? p = if p m = true then some m else (l.drop (k + 1)).find? p := by
  have hk := (List.getElem?_eq_some_iff.1 h).1
  rw [List.drop_eq_getElem_cons hk, (List.getElem?_eq_some_iff.1 h).2, List.find?_cons]
  cases p m <;> rfl
theorem signs_index (k : Nat) (hk : k < 15) (W : World) : ∃ x, signsL[k]? = some x ∧ (Instr.index 166 (.agg signsV) (.int .i64 (k : Int))).run Tryz.prog W = .ok (.agg #[.string (txt x.1), .int .i64 (x.2.1 : Int), .int .i64 (x.2.2 : Int)]) W := by
  rcases k with _ | _ | _ | _ | _ | _ | _ | _ | _ | _ | _ | _ | _ | _ | _ | k
  all_goals first | omega | exact ⟨_, rfl, by kernel_rfl⟩
def signP (l : List Tok) (n i : Nat) (x : List Nat × Nat × Nat) : Bool := decide (x.2.2 = n) && isT l i x.1
theorem signK_find (l : List Tok) (n i : Nat) : signK l n i = match signsL.find? (signP l n i) with | some x => x.2.1 | none => 0 := rfl
section
variable {q : Nat} {a : Option Addr} {c sz : Nat} {l : List Tok} {i : Nat} {W : World}
theorem Mv.setNew {W X : World} (h : Mv q W X) {p : Addr} (u : Value) (hq : q ≤ p.block) (hB : W.heap.size ≤ p.block) : Mv q W (X.setCell p u) :=
  ⟨h.low.setCell hq u, fun k h1 h2 => (Below.heap_setCell X p u k (by omega)).trans (h.high k h1 h2)⟩
theorem PSt.setFar (h : PSt q a c sz l i W) {p : Addr} (u : Value) (hp : q < p.block) : PSt q a c sz l i (W.setCell p u) :=
  h.mv ((Below.refl q W).setCell (Nat.le_of_lt hp) u) (h.box.far (Nat.ne_of_lt hp) u) h.le
def SignIs (q : Nat) (a : Option Addr) (c sz : Nat) (l : List Tok) (i : Nat) (W : World) : Option (List Nat × Nat × Nat) → Ending → World → Prop
  | none, e, w' => e = .returned (.tuple #[.agg #[.string ByteArray.empty, .int .i64 0, .int .i64 0], .bool false]) ∧ Mv q W w' ∧ PSt q a c sz l i w'
  | some x, e, w' => e = .returned (.tuple #[.agg #[.string (txt x.1), .int .i64 (x.2.1 : Int), .int .i64 (x.2.2 : Int)], .bool true]) ∧ Mv q W w' ∧ PSt q a c sz l (i + 1) w'
theorem p_sign0 (n : Nat) (h : PSt q a c sz l i W) (R : Option (List Nat × Nat × Nat)) (hR : signsL.find? (signP l n i) = R) :
    Calls Tryz.prog 84 #[.pointer (some ⟨q, 0, none⟩), .int .i64 (n : Int)] W fun e w' => SignIs q a c sz l i W R e w' := by
  obtain ⟨tt, fr, hg1⟩ := signs_block h.signs
  have H := zH h
  have HR : Hid ((signsL.drop 0).find? (signP l n i) = R) := zH hR
  have hg2 : ∀ v, (W.alloc (.cells v 145)).heap[3]? = some (.cells signsV tt fr) := fun v => (zB.alloc zL _).block 3 (Nat.lt_trans h.low h.box.lt) |>.trans hg1
  clear h hR hg1
  go_enter Tryz.func84, Tryz.ntmps84
  go_wp2_with (refine wpList_load_row rfl 166 _ rfl 3 rfl tt _ fr _ (hg2 _) Tryz.underlying166 rfl (by kernel_rfl) ?_)
  generalize hWA : World.alloc W _ = WA
  have BA : Hid (Below W.heap.size W WA) := zH (by rw [← hWA]; exact zB.alloc zL _)
  have KA : Hid (Blk WA W.heap.size 145 #[.string ByteArray.empty, .int .i64 0, .int .i64 0]) := zH (by rw [← hWA]; exact Blk.new _ _ _)
  have HA : Hid (PSt q a c sz l i WA) := zH (H.out.keep BA.out)
  have lq := H.out.box.lt
  obtain ⟨B, hB⟩ : ∃ B, W.heap.size = B := ⟨_, rfl⟩
  rw [hB] at lq KA
  rw [hB]
  have lqA := KA.out.lt
  have HB := zH hB
  have hfew := H.out.few
  have hle := H.out.le
  have i5 : (i : Int) ≤ 5000 := by omega
  have i0 : (0 : Int) ≤ (i : Int) := Int.natCast_nonneg _
  clear hWA hg2 hB hfew hle
  go_loopw [7, 9] (fun _ j wr => ∃ k : Nat, k ≤ 15 ∧ j = .int .i64 (k : Int) ∧ Hid ((signsL.drop k).find? (signP l n i) = R) ∧ Hid (Below WA.heap.size WA wr)) (fun _ j _ => 15 - (intOf j).toNat)
  case atStart => exact ⟨0, by omega, by go_num, HR, zH zB⟩
  case round =>
    obtain ⟨k, hk, rfl, hu, hw⟩ := hrel
    have Hw := hw
    clear hw
    have b1 : (0 : Int) ≤ (k : Int) := Int.natCast_nonneg _
    have KW : Blk wr B 145 #[.string ByteArray.empty, .int .i64 0, .int .i64 0] := KA.out.below Hw.out lqA
    have z0 : wr.cell? ⟨B, 0, none⟩ = some (.string ByteArray.empty) := KW.cell rfl
    have z1 : wr.cell? ⟨B, 1, none⟩ = some (.int .i64 0) := KW.cell rfl
    have z2 : wr.cell? ⟨B, 2, none⟩ = some (.int .i64 0) := KW.cell rfl
    have zf0 : wr.frozen? ⟨B, 0, none⟩ = false := KW.frozen 0
    have zf1 : wr.frozen? ⟨B, 1, none⟩ = false := KW.frozen 1
    have zf2 : wr.frozen? ⟨B, 2, none⟩ = false := KW.frozen 2
    have lB := KW.lt
    have HKW := zH KW
    have HP : Hid (PSt q a c sz l i wr) := zH (HA.out.keep Hw.out)
    obtain ⟨f0, f1, f2, f3, f4⟩ := HP.out.facts
    clear KW
    by_cases hlt : k < 15
    · obtain ⟨x, hx, _⟩ := signs_index k hlt wr
      have hidx : ∀ W, (Instr.index 166 (.agg signsV) (.int .i64 (k : Int))).run Tryz.prog W = .ok (.agg #[.string (txt x.1), .int .i64 (x.2.1 : Int), .int .i64 (x.2.2 : Int)]) W := fun W => by
        obtain ⟨x', hx', h⟩ := signs_index k hlt W
        rw [hx] at hx'
        injection hx' with hx'
        subst hx'
        exact h
      have hby : Bytes x.1 := by
        have : ∀ m ∈ signsL, ∀ n ∈ m.1, n < 256 := by decide
        exact this x (List.mem_iff_getElem?.2 ⟨k, hx⟩)
      have hf := find_drop1 (p := signP l n i) hx
      have hv := hu.out
      rw [hf] at hv
      obtain ⟨xt, xk, xl⟩ := x
      have Hby := zH hby
      by_cases hl : xl = n
      · subst hl
        obtain ⟨b, hb⟩ : ∃ b, isT l i xt = b := ⟨_, rfl⟩
        have hsp : signP l xl i (xt, xk, xl) = b := by rw [← hb]; simp [signP]
        rw [hsp] at hv
        have e1 : ((xl : Int) == (xl : Int)) = true := by simp
        have HN := zH (fun v => p_next xt hby b hb (HP.out.keep ((zB.alloc zL (.cells v 145)))))
        cases b with
        | true =>
          rw [if_pos rfl] at hv
          have HV := zH hv
          have ilt : Hid (i + 1 ≤ l.length) := zH (isT_lt hb)
          clear hu hv hx hby hf hb hsp
          go_wp2_with (first
            | (go_at_call 100; (with_reducible refine (HN.out _).mono ?_); rintro e w1 ⟨rfl, nq, rfl⟩))
          have vm := Mv.of_below (q := q) (BA.out.trans (Hw.out.mono (by have := HB.out; omega))) (by have := HB.out; omega)
          have vm2 := vm.trans (Mv.of_below (q := q) (((Below.refl wr.heap.size wr).alloc zL (.cells #[.string (txt xt), .int .i64 (xk : Int), .int .i64 (xl : Int)] 145))) (by omega))
          have hs2 := HP.out.keep (((Below.refl wr.heap.size wr).alloc zL (.cells #[.string (txt xt), .int .i64 (xk : Int), .int .i64 (xl : Int)] 145)))
          have st := hs2.step (j := i + 1) (u := .int .i64 ((i : Int) + 1)) (by go_num) ilt.out nq
          have hBW := HB.out
          have hv := HV.out
          subst hv
          have hmv := (((vm2.trans st.1).setNew (p := ⟨B, 0, none⟩) (.string (txt xt)) (by show q ≤ B; omega) (by show W.heap.size ≤ B; omega)).setNew (p := ⟨B, 1, none⟩) (.int .i64 (xk : Int)) (by show q ≤ B; omega) (by show W.heap.size ≤ B; omega)).setNew (p := ⟨B, 2, none⟩) (.int .i64 (xl : Int)) (by show q ≤ B; omega) (by show W.heap.size ≤ B; omega)
          have hps := ((st.2.setFar (p := ⟨B, 0, none⟩) (.string (txt xt)) (by show q < B; omega)).setFar (p := ⟨B, 1, none⟩) (.int .i64 (xk : Int)) (by show q < B; omega)).setFar (p := ⟨B, 2, none⟩) (.int .i64 (xl : Int)) (by show q < B; omega)
          have hka : Blk ((wr.alloc (.cells #[.string (txt xt), .int .i64 (xk : Int), .int .i64 (xl : Int)] 145)).drewN nq) B 145 #[.string ByteArray.empty, .int .i64 0, .int .i64 0] := HKW.out.alloc _
          have hkb : Blk _ B 145 _ := (((hka.far (p := ⟨q, 1, none⟩) (by show B ≠ q; omega) (.int .i64 ((i : Int) + 1))).set_ 0 (.string (txt xt))).set_ 1 (.int .i64 (xk : Int))).set_ 2 (.int .i64 (xl : Int))
          generalize hwf : World.setCell (World.setCell (World.setCell _ _ _) _ _) _ _ = wf
          have hmv' : Mv q W wf := by rw [← hwf]; exact hmv
          have hps' : PSt q a c sz l (i + 1) wf := by rw [← hwf]; exact hps
          have c0 : wf.cell? ⟨B, 0, none⟩ = some (.string (txt xt)) := by rw [← hwf]; exact hkb.cell rfl
          have c1 : wf.cell? ⟨B, 1, none⟩ = some (.int .i64 (xk : Int)) := by rw [← hwf]; exact hkb.cell rfl
          have c2 : wf.cell? ⟨B, 2, none⟩ = some (.int .i64 (xl : Int)) := by rw [← hwf]; exact hkb.cell rfl
          clear hwf hmv hps hkb vm vm2 hs2 st
          refine bodyPost_ret (v := .tuple #[.agg #[.string (txt xt), .int .i64 (xk : Int), .int .i64 (xl : Int)], .bool true]) (by simp [results, Tryz.results84, go_sem, c0, c1, c2]) rfl ?_
          exact ⟨rfl, hmv', hps'⟩
        | false =>
          rw [if_neg (by simp)] at hv
          have HV := zH hv
          clear hu hv hx hby hf hb hsp
          go_wp2_with (first
            | (go_at_call 100; (with_reducible refine (HN.out _).mono ?_); rintro e w1 ⟨rfl, nq, rfl⟩))
          go_roundw
          case rel => exact ⟨k + 1, by omega, by go_num, HV, zH (below_drewN (Hw.out.alloc Hw.out.size _) _)⟩
          case measure => simp [intOf]; omega
      · have hsp : signP l n i (xt, xk, xl) = false := by simp [signP, hl]
        rw [hsp, if_neg (by simp)] at hv
        have HV := zH hv
        have e1 : ((xl : Int) == (n : Int)) = false := by simp; omega
        clear hu hv hx hby hf hsp hl
        go_wp2_with fail
        go_roundw
        case rel => exact ⟨k + 1, by omega, by go_num, HV, zH (Hw.out.alloc Hw.out.size _)⟩
        case measure => simp [intOf]; omega
    · have hk15 : k = 15 := by omega
      subst hk15
      have hv := hu.out
      rw [show (signsL.drop 15) = [] from rfl, List.find?_nil] at hv
      subst hv
      have hdec : decide (((15 : Nat) : Int) < 15) = false := by decide
      clear hu
      go_wp2_with fail
      have vm := Mv.of_below (q := q) (BA.out.trans (Hw.out.mono (by have := HB.out; omega))) (by have := HB.out; omega)
      have hBW := HB.out
      have hmv := ((vm.setNew (p := ⟨B, 0, none⟩) (.string ByteArray.empty) (by show q ≤ B; omega) (by show W.heap.size ≤ B; omega)).setNew (p := ⟨B, 1, none⟩) (.int .i64 0) (by show q ≤ B; omega) (by show W.heap.size ≤ B; omega)).setNew (p := ⟨B, 2, none⟩) (.int .i64 0) (by show q ≤ B; omega) (by show W.heap.size ≤ B; omega)
      have hps := ((HP.out.setFar (p := ⟨B, 0, none⟩) (.string ByteArray.empty) (by show q < B; omega)).setFar (p := ⟨B, 1, none⟩) (.int .i64 0) (by show q < B; omega)).setFar (p := ⟨B, 2, none⟩) (.int .i64 0) (by show q < B; omega)
      have hkb : Blk _ B 145 _ := ((HKW.out.set_ 0 (.string ByteArray.empty)).set_ 1 (.int .i64 0)).set_ 2 (.int .i64 0)
      generalize hwf : World.setCell (World.setCell (World.setCell _ _ _) _ _) _ _ = wf
      have hmv' : Mv q W wf := by rw [← hwf]; exact hmv
      have hps' : PSt q a c sz l i wf := by rw [← hwf]; exact hps
      have c0 : wf.cell? ⟨B, 0, none⟩ = some (.string ByteArray.empty) := by rw [← hwf]; exact hkb.cell rfl
      have c1 : wf.cell? ⟨B, 1, none⟩ = some (.int .i64 0) := by rw [← hwf]; exact hkb.cell rfl
      have c2 : wf.cell? ⟨B, 2, none⟩ = some (.int .i64 0) := by rw [← hwf]; exact hkb.cell rfl
      clear hwf hmv hps hkb vm z0 z1 z2
      refine bodyPost_ret (v := .tuple #[.agg #[.string ByteArray.empty, .int .i64 0, .int .i64 0], .bool false]) (by simp [results, Tryz.results84, go_sem, c0, c1, c2]) rfl ?_
      exact ⟨rfl, hmv', hps'⟩
end
end Go.Proofs.YtdkoafmgenbkbaaGreatDoor
namespace Go.Proofs.YtdkoafmgenbkbaaGreatDoor
open Go.RowKit
section
variable {q : Nat} {a : Option Addr} {c sz : Nat} {l : List Tok} {i : Nat} {W : World}
def Reads (q : Nat) (a : Option Addr) (c sz : Nat) (l : List Tok) (W : World) : PR → Ending → World → Prop
  | .ok t j, e, w' => (∃ g, e = .returned (.pointer (some ⟨g, 0, none⟩)) ∧ TreeAt w' W.heap.size t g) ∧ Mv q W w' ∧ PSt q a c sz l j w'
  | .no j, e, w' => e = .panicked (thrownE (placeAt l sz j)) ∧ Mv q W w'
  | .out, _, _ => False
def LevelC (q : Nat) (a : Option Addr) (c sz : Nat) (l : List Tok) (fn : FuncId) (rd : Nat → PR) : Prop :=
  ∀ (i : Nat) (W : World), PSt q a c sz l i W → rd i ≠ .out → Calls Tryz.prog fn #[.pointer (some ⟨q, 0, none⟩)] W (Reads q a c sz l W (rd i))
theorem Mv.cell {W W' : World} (h : Mv q W W') {p : Addr} {u : Value} (hp : q < p.block) (hc : W.cell? p = some u) : W'.cell? p = some u := by
  have hlt : p.block < W.heap.size := cell_lt hc
  have hh := h.high p.block hp hlt
  unfold World.cell? at hc ⊢
  rw [hh]
  exact hc
theorem node2 {w : World} {lo k g1 g2 : Nat} {t1 t2 : Tr} (hlo : lo ≤ w.heap.size) (h1 : TreeAt w lo t1 g1) (h2 : TreeAt w lo t2 g2) :
    TreeAt ((w.alloc (.cells #[.pointer (some ⟨g1, 0, none⟩), .pointer (some ⟨g2, 0, none⟩)] 111)).alloc (.cells #[.int .i64 (k : Int), .string (txt []), .int .i64 0, .slice none 0 0, .slice (some ⟨w.heap.size, 0, none⟩) 2 2] 135)) lo (.node k [] 0 [t1, t2]) (w.heap.size + 1) := by
  have hb : Below w.heap.size w ((w.alloc (.cells #[.pointer (some ⟨g1, 0, none⟩), .pointer (some ⟨g2, 0, none⟩)] 111)).alloc (.cells #[.int .i64 (k : Int), .string (txt []), .int .i64 0, .slice none 0 0, .slice (some ⟨w.heap.size, 0, none⟩) 2 2] 135)) :=
    (zB.alloc zL _).alloc (by simp) _
  have hi := High.of_below hb zL lo
  simp only [TreeAt, TreeIn, TreesIn]
  refine ⟨by omega, _, [g1, g2], Blk.new_ (by simp) _ _, ⟨[.pointer (some ⟨g1, 0, none⟩), .pointer (some ⟨g2, 0, none⟩)], ⟨rfl, .inr ⟨w.heap.size, 2, _, rfl, Nat.zero_le _, (Blk.new w 111 #[.pointer (some ⟨g1, 0, none⟩), .pointer (some ⟨g2, 0, none⟩)]).alloc _, Nat.le_refl _, by unfold maxLen; simp, by simp, by simp⟩⟩, rfl, fun j y hy => ?_⟩, (fun b hb => by simp [Value.ownBlock] at hb; omega), g1, [g2], rfl, h1.high hi, g2, [], rfl, h2.high hi, rfl⟩
  rcases j with _ | _ | j
  · injection hy with hy; subst hy; rfl
  · injection hy with hy; subst hy; rfl
  · simp at hy
def rowR (l : List Tok) (f n i : Nat) : PR := (pL l f (n + 1) i).bind fun t j => pR l f n t j
theorem p_row (n f : Nat) (fB : FuncId) (once : Bool) (honce : once = decide (n = 4))
    (hcall : ∀ args w, (callFunc fB args).run Tryz.prog w = .ok (.enter fB args) w)
    (HB : ∀ f', f' ≤ f → LevelC q a c sz l fB (fun i => pL l f' (n + 1) i)) (h : PSt q a c sz l i W) (hr : rowR l f n i ≠ .out) :
    Calls Tryz.prog 70 #[.pointer (some ⟨q, 0, none⟩), .int .i64 (n : Int), .func (.func fB) #[.pointer (some ⟨q, 0, none⟩)] #[], .bool once] W (Reads q a c sz l W (rowR l f n i)) := by
  obtain ⟨r, hr0⟩ : ∃ r, rowR l f n i = r := ⟨_, rfl⟩
  rw [hr0] at hr ⊢
  unfold rowR at hr0
  have H := zH h
  have HBf : Hid (pL l f (n + 1) i ≠ .out → Calls Tryz.prog fB #[.pointer (some ⟨q, 0, none⟩)] W (Reads q a c sz l W (pL l f (n + 1) i))) := zH (HB f zL i W h)
  have HBs := zH (fun (f' : Nat) (hf : f' ≤ f) (i : Nat) (X : World) (hX : PSt q a c sz l i X) (hne : pL l f' (n + 1) i ≠ .out) => (show Calls Tryz.prog fB #[.pointer (some ⟨q, 0, none⟩)] X (Reads q a c sz l X (pL l f' (n + 1) i)) from HB f' hf i X hX hne))
  have HO := zH honce
  have QL := zH h.box.lt
  clear HB h honce
  cases hb : pL l f (n + 1) i with
  | out => rw [hb] at hr0; exact absurd hr0.symm hr
  | no j =>
    rw [hb] at hr0 HBf
    have HF := zH (HBf.out (by simp))
    have hr1 : PR.no j = r := hr0
    subst hr1
    clear hb hr0 hr HBf
    go_enter Tryz.func70, Tryz.ntmps70
    go_wp2_with (first
      | (refine HF.out.mono ?_; rintro e w1 ⟨rfl, h1⟩; have M1 := zH h1; clear h1))
    exact ⟨rfl, rfl, M1.out⟩
  | ok t j =>
    rw [hb] at hr0 HBf
    have HF := zH (HBf.out (by simp))
    have hr1 : pR l f n t j = r := hr0
    have HR := zH hr1
    have HNE := zH hr
    clear hb hr0 hr HBf hr1
    go_enter Tryz.func70, Tryz.ntmps70
    go_wp2_with (first
      | (refine HF.out.mono ?_; rintro e w1 ⟨⟨g1, rfl, h1⟩, h2, h3⟩; have T1 := zH h1; have M1 := zH h2; have P1 := zH h3; clear h1 h2 h3))
    go_loopg [8, 9, 10, 11] f (fun gk _ v _ _ wr => ∃ (t : Tr) (j g : Nat), gk ≤ f ∧ v = .pointer (some ⟨g, 0, none⟩) ∧ Hid (pR l gk n t j = r) ∧ Hid (TreeAt wr W.heap.size t g) ∧ Hid (Mv q W wr) ∧ Hid (PSt q a c sz l j wr))
    case atStart => exact ⟨t, j, g1, Nat.le_refl _, rfl, HR, T1, M1, P1⟩
    case round =>
      clear T1 M1 P1 HF HR
      obtain ⟨t, j, g, hgk, rfl, hr, ht, hm, hp⟩ := hrel
      have HR := hr
      have HT := ht
      have HM := hm
      have HP := hp
      clear hr ht hm hp
      cases gk with
      | zero =>
        exfalso
        have := HR.out
        rw [pR] at this
        exact HNE.out this.symm
      | succ f1 =>
      have hr := HR.out
      rw [pR, signK_find] at hr
      obtain ⟨R, hR⟩ : ∃ R, signsL.find? (signP l n j) = R := ⟨_, rfl⟩
      have HS := zH (p_sign0 n HP.out R hR)
      rw [hR] at hr
      cases R with
      | none =>
        rw [if_pos rfl] at hr
        subst hr
        clear hR
        go_wp2_with (first
          | (go_at_call 84; (with_reducible refine HS.out.mono ?_); rintro e w2 ⟨rfl, h2, h3⟩; have M2 := zH h2; have P2 := zH h3; clear h2 h3))
        go_ret
        have ha := (Below.refl w2.heap.size w2).alloc zL (.cells #[.string ByteArray.empty, .int .i64 0, .int .i64 0] 145)
        exact ⟨⟨g, rfl, (HT.out.high (High.of_mv M2.out QL.out)).high (High.of_below ha zL _)⟩, (HM.out.trans M2.out).trans (Mv.of_below ha (Nat.le_trans (Nat.le_of_lt QL.out) (Nat.le_trans HM.out.low.size M2.out.low.size))), P2.out.keep ha⟩
      | some x =>
        obtain ⟨xt, xk, xl⟩ := x
        have hk0 : xk ≠ 0 := by
          have : ∀ m ∈ signsL, m.2.1 ≠ 0 := by decide
          exact this _ (List.mem_of_find?_eq_some hR)
        dsimp only at hr
        rw [if_neg hk0] at hr
        clear hR hk0
        cases hb : pL l f1 (n + 1) (j + 1) with
        | out => rw [hb] at hr; exact absurd hr.symm HNE.out
        | no j2 =>
          rw [hb] at hr
          have hr1 : PR.no j2 = r := hr
          subst hr1
          have HB2 := zH (fun X (hX : PSt q a c sz l (j + 1) X) => (show Calls Tryz.prog fB #[.pointer (some ⟨q, 0, none⟩)] X (Reads q a c sz l X (.no j2)) by have := HBs.out f1 (by omega) (j + 1) X hX (by simp [hb]); rwa [hb] at this))
          clear hb hr
          go_wp2_with (first
            | (go_at_call 84; (with_reducible refine HS.out.mono ?_); rintro e w2 ⟨rfl, h2, h3⟩; have M2 := zH h2; have P2 := zH h3; clear h2 h3))
          have kb := Blk.new w2 145 #[.string (txt xt), .int .i64 (xk : Int), .int .i64 (xl : Int)]
          have ba := (Below.refl w2.heap.size w2).alloc zL (.cells #[.string (txt xt), .int .i64 (xk : Int), .int .i64 (xl : Int)] 145)
          have lq2 : q < w2.heap.size := P2.out.box.lt
          generalize hwb : World.alloc w2 _ = wb
          rw [hwb] at kb ba
          clear hwb
          obtain ⟨bs, hbs⟩ : ∃ z, w2.heap.size = z := ⟨_, rfl⟩
          have MB : Hid (Mv q W wb) := zH ((HM.out.trans M2.out).trans (Mv.of_below ba (Nat.le_of_lt lq2)))
          have PB := zH (P2.out.keep ba)
          have TB : Hid (TreeAt wb W.heap.size t g) := zH ((HT.out.high (High.of_mv M2.out QL.out)).high (High.of_below ba zL _))
          rw [hbs] at kb lq2 ⊢
          have KB : wb.cell? ⟨bs, 1, none⟩ = some (.int .i64 (xk : Int)) := kb.cell rfl
          have lbs := kb.lt
          clear kb ba hbs
          refine wp_region_held_drew (S := fun w' => w'.cell? ⟨bs, 1, none⟩ = some (.int .i64 (xk : Int))) (by kernel_rfl) KB (fun hHeld => ?_)
          refine wpAnyH_take (i := 0) (v := ?_) rfl (by kernel_rfl) (by kernel_rfl) (by kernel_rfl) (fun _ _ _ h => h) (Or.inl ⟨by rfl, ?_⟩) (by assumption) ?_
          rotate_left
          · intro w hSw; (try dsimp only at hSw); go_simp; with_reducible rfl
          try simp only [Act.put, List.setIfInBounds_toArray, List.set_cons_zero, List.set_cons_succ]
          refine wpAnyH_take (i := 1) (v := ?_) rfl (by kernel_rfl) (by kernel_rfl) (by kernel_rfl) (fun _ _ _ h => h) (Or.inl ⟨by rfl, ?_⟩) (by assumption) ?_
          rotate_left
          · intro w hSw; (try dsimp only at hSw); go_simp; with_reducible rfl
          try simp only [Act.put, List.setIfInBounds_toArray, List.set_cons_zero, List.set_cons_succ]
          refine wpAnyH_take (i := 2) (v := ?_) rfl (by kernel_rfl) (by kernel_rfl) (by kernel_rfl) (fun _ _ _ h => h) (Or.inl ⟨by rfl, ?_⟩) (by assumption) ?_
          rotate_left
          · intro w hSw; (try dsimp only at hSw); go_simp; with_reducible rfl
          try simp only [Act.put, List.setIfInBounds_toArray, List.set_cons_zero, List.set_cons_succ]
          refine wpAnyH_take (i := 3) (v := ?_) rfl (by kernel_rfl) (by kernel_rfl) (by kernel_rfl) (fun _ _ _ h => h) (Or.inl ⟨by rfl, ?_⟩) (by assumption) ?_
          rotate_left
          · intro w hSw; (try dsimp only at hSw); go_simp; with_reducible rfl
          try simp only [Act.put, List.setIfInBounds_toArray, List.set_cons_zero, List.set_cons_succ]
          refine wpAnyH_ready (rs := [4]) (by kernel_rfl) (by simp) ?_
          refine AllReadyH.cons rfl (fun K hK => ?_) AllReadyH.nil
          go_simp
          go_wp2_with (first
            | (refine (HB2.out _ (PB.out.quiet ⟨1, rfl⟩)).mono ?_; rintro e w3 ⟨rfl, h1⟩; have M3 : Hid (Mv q W w3) := zH (MB.out.trans ((Mv.quiet ⟨1, rfl⟩).trans h1)); clear h1))
          exact ⟨rfl, rfl, M3.out⟩
        | ok t2 j2 =>
          have HB2 := zH (fun X (hX : PSt q a c sz l (j + 1) X) => (show Calls Tryz.prog fB #[.pointer (some ⟨q, 0, none⟩)] X (Reads q a c sz l X (.ok t2 j2)) by have := HBs.out f1 (by omega) (j + 1) X hX (by simp [hb]); rwa [hb] at this))
          have HR2 := zH hr
          have Hb := zH hb
          clear hb hr
          go_wp2_with (first
            | (go_at_call 84; (with_reducible refine HS.out.mono ?_); rintro e w2 ⟨rfl, h2, h3⟩; have M2 := zH h2; have P2 := zH h3; clear h2 h3))
          have kb := Blk.new w2 145 #[.string (txt xt), .int .i64 (xk : Int), .int .i64 (xl : Int)]
          have ba := (Below.refl w2.heap.size w2).alloc zL (.cells #[.string (txt xt), .int .i64 (xk : Int), .int .i64 (xl : Int)] 145)
          have lq2 : q < w2.heap.size := P2.out.box.lt
          generalize hwb : World.alloc w2 _ = wb
          rw [hwb] at kb ba
          clear hwb
          obtain ⟨bs, hbs⟩ : ∃ z, w2.heap.size = z := ⟨_, rfl⟩
          have MB : Hid (Mv q W wb) := zH ((HM.out.trans M2.out).trans (Mv.of_below ba (Nat.le_of_lt lq2)))
          have PB := zH (P2.out.keep ba)
          have TB : Hid (TreeAt wb W.heap.size t g) := zH ((HT.out.high (High.of_mv M2.out QL.out)).high (High.of_below ba zL _))
          rw [hbs] at kb lq2 ⊢
          have KB : wb.cell? ⟨bs, 1, none⟩ = some (.int .i64 (xk : Int)) := kb.cell rfl
          have lbs := kb.lt
          clear kb ba hbs
          go_region_held3 (fun w' => w'.cell? ⟨bs, 1, none⟩ = some (.int .i64 (xk : Int)))
            (first | exact KB | exact K3 | go_keep | fail)
            (first
              | (refine (HB2.out _ (PB.out.quiet ⟨1, rfl⟩)).mono ?_; rintro e w3 ⟨⟨g2, rfl, h1⟩, h2, h3⟩; have K3 : w3.cell? ⟨bs, 1, none⟩ = some (.int .i64 (xk : Int)) := h2.cell lq2 KB; have T3 := zH h1; have M3 := zH h2; have P3 := zH h3; clear h1 h2 h3)
              | (go_at_call 85; refine (p_of xk [] _ _ _ _).mono ?_; rintro e w4 ⟨rfl, rfl⟩))
          have e1 : (wb.drewN 1).heap.size = wb.heap.size := rfl
          have MW : Mv q W w3 := MB.out.trans ((Mv.quiet ⟨1, rfl⟩).trans M3.out)
          have lW : W.heap.size ≤ (wb.drewN 1).heap.size := by rw [e1]; exact MB.out.low.size
          have N2 := zH (node2 (k := xk) (lo := W.heap.size) MW.low.size ((TB.out.high (High.of_mv (Mv.quiet (W' := wb.drewN 1) ⟨1, rfl⟩) QL.out)).high (High.of_mv M3.out QL.out)) (T3.out.mono lW))
          have bN := ((Below.refl w3.heap.size w3).alloc zL (.cells #[.pointer (some ⟨g, 0, none⟩), .pointer (some ⟨g2, 0, none⟩)] 111)).alloc (by simp) (.cells #[.int .i64 (xk : Int), .string (txt []), .int .i64 0, .slice none 0 0, .slice (some ⟨w3.heap.size, 0, none⟩) 2 2] 135)
          have MN := zH (MW.trans (Mv.of_below bN (Nat.le_of_lt P3.out.box.lt)))
          have PN := zH (P3.out.keep bN)
          clear MW bN e1 lW KB K3
          have hr := HR2.out
          rw [Hb.out] at hr
          have hr1 : (if n = 4 then PR.ok (.node xk [] 0 [t, t2]) j2 else pR l f1 n (.node xk [] 0 [t, t2]) j2) = r := hr
          clear hr
          by_cases hn4 : n = 4
          · rw [if_pos hn4] at hr1
            subst hr1
            have ho := HO.out
            rw [decide_eq_true hn4] at ho
            subst ho
            clear hn4
            go_wp2_with fail
            go_ret
            exact ⟨⟨_, rfl, N2.out⟩, MN.out, PN.out⟩
          · rw [if_neg hn4] at hr1
            have HR3 := zH hr1
            have ho := HO.out
            rw [decide_eq_false hn4] at ho
            subst ho
            clear hn4 hr1
            go_wp2_with fail
            go_roundg f1
            case measure => omega
            case rel => exact ⟨_, _, _, by omega, rfl, HR3, N2, MN, PN⟩
end
end Go.Proofs.YtdkoafmgenbkbaaGreatDoor
