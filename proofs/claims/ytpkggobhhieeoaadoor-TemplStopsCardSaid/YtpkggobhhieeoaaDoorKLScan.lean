/- - -/
import Derived.Test.YtpkggobhhieeoaaDoorKM3
set_option maxRecDepth 100000
set_option maxHeartbeats 32000000
set_option linter.unusedSimpArgs false
set_option linter.unusedVariables false
namespace Go.Proofs.YtpkggobhhieeoaaDoor
open Go.RowKit
theorem unq_len : ∀ (f i : Nat) (l o s : List Nat) (k e : Nat), unq l f i o = (s, k, e) → e = 0 → Bytes l → s.length + i ≤ o.length + k
  | 0, i, l, o, s, k, e, h, he, _ => by simp [unq] at h; omega
  | f + 1, i, l, o, s, k, e, h, he, hl => by
    rw [unq] at h
    split at h
    · rename_i hi
      simp at h
      obtain ⟨rfl, rfl, _⟩ := h
      omega
    · rename_i hi
      split at h
      · rename_i c n m hone
        have hd : Bytes (l.drop i) := fun x hx => hl x (List.mem_of_mem_drop hx)
        obtain ⟨c1, c2, _⟩ := one_some hd (by rw [List.head?_drop]; exact hi) hone
        have := (form_len c).1
        have := unq_len f _ l _ s k e h he hl
        simp at this
        omega
      · simp at h; omega
theorem step_len {r : List Nat} {k n : Nat} {s : List Nat} {v : Int} (h : stepP r = (some (k, s, v), n)) : s.length ≤ r.length := by
  rw [← step_same] at h
  unfold stepR at h
  generalize lenFrom r r.length 0 = m at h
  have hm : (r.take m).length ≤ r.length := by rw [List.length_take]; omega
  cases hw : wholeN (r.take m) with
  | none => rw [hw] at h; simp at h
  | some t =>
    obtain ⟨k', s', v'⟩ := t
    rw [hw] at h
    simp only at h
    split at h
    · simp at h
    · simp only [Prod.mk.injEq, Option.some.injEq] at h
      obtain ⟨⟨rfl, rfl, rfl⟩, rfl⟩ := h
      unfold wholeN at hw
      split at hw
      · simp only [Option.some.injEq, Prod.mk.injEq] at hw
        obtain ⟨_, rfl, _⟩ := hw
        simp
      · split at hw
        · simp only [Option.some.injEq, Prod.mk.injEq] at hw
          obtain ⟨_, rfl, _⟩ := hw
          exact hm
        · split at hw
          · simp only [Option.some.injEq, Prod.mk.injEq] at hw
            obtain ⟨_, rfl, _⟩ := hw
            exact hm
          · split at hw
            · simp only [Option.some.injEq, Prod.mk.injEq] at hw
              obtain ⟨_, rfl, _⟩ := hw
              exact hm
            · cases hw
def Tok.cells (t : Tok) : List Value := [.int .i64 t.kind, .string (txt t.text), .int .i64 t.num, .int .i64 t.place]
def Tok.ok (t : Tok) : Prop := Bytes t.text ∧ t.text.length ≤ maxLen ∧ (Lit.int .i64 t.kind).wf = true ∧ (Lit.int .i64 t.num).wf = true ∧ (Lit.int .i64 t.place).wf = true
def Tok.Is (x : List Value) (t : Tok) : Prop := x = t.cells ∧ t.ok
theorem Tok.Is.one (x : List Value) (t : Tok) (h : Tok.Is x t) : ∀ u ∈ x, u.oneCell' = true := by
  intro u hu
  rw [h.1] at hu
  simp [Tok.cells] at hu
  rcases hu with rfl | rfl | rfl | rfl <;> rfl
theorem info_tok : (Tryd.prog.info? 110).map (fun i => (i.zero, i.size, i.bytes)) = some (some (.agg #[.int .i64 0, .string .empty, .int .i64 0, .int .i64 0]), 4, 40) := by kernel_rfl
theorem wf_in {v : Int} (h1 : -9223372036854775808 ≤ v) (h2 : v ≤ 9223372036854775807) : (Lit.int .i64 v).wf = true := by
  simp [Lit.wf, IntKind.min, IntKind.max, IntKind.signed, IntKind.bits]
  omega
theorem Tok.mk_ok {k i : Nat} {s : List Nat} {v : Int} (h1 : Bytes s) (h2 : s.length ≤ 4096) (h3 : k < 6) (h4 : i ≤ 4096) (h5 : -9223372036854775808 ≤ v) (h6 : v ≤ 9223372036854775807) : Tok.ok ⟨k, s, v, i⟩ :=
  ⟨h1, by show s.length ≤ maxLen; unfold maxLen; omega, wf_in (by show (-9223372036854775808 : Int) ≤ (k : Int); omega) (by show (k : Int) ≤ 9223372036854775807; omega), wf_in h5 h6, wf_in (by show (-9223372036854775808 : Int) ≤ (i : Int); omega) (by show (i : Int) ≤ 9223372036854775807; omega)⟩
def ScanIs (w : World) (R : List Tok × Nat × Nat) (e : Ending) (w' : World) : Prop :=
  ∃ (a : Option Addr) (n c : Nat), e = .returned (.tuple #[.slice a n c, .int .i64 (R.2.1 : Int), .int .i64 (R.2.2 : Int)]) ∧ Own1 w' w.heap.size 110 4 Tok.Is (.slice a n c) R.1 ∧ Below w.heap.size w w'
theorem ScanIs.no {w w' : World} {i r : Nat} {e : Ending} (he : e = .returned (.tuple #[.slice none 0 0, .int .i64 (i : Int), .int .i64 (r : Int)])) (hb : Below w.heap.size w w') {R : List Tok × Nat × Nat} (hR : R = ([], i, r)) : ScanIs w R e w' := by
  subst hR
  exact ⟨Option.none, 0, 0, he, ⟨[], World.ownsRow_nil _ _ _ _, FlatR.nil_⟩, hb⟩
def atCell (w : World) (g : Nat) : Nat := match w.cell? ⟨g, 0, none⟩ with
  | some (.int _ i) => i.toNat
  | _ => 0
theorem atCell_of {w : World} {g t : Nat} {k : Nat} (h : Blk w g t #[.int .i64 (k : Int)]) : atCell w g = k := by
  unfold atCell
  rw [h.cell (i := 0) rfl]
  exact Int.toNat_natCast k
def ScanSt (w : World) (s : ByteArray) (k : Nat) (v : Value) (toks : List Tok) (wr : World) : Prop :=
  Blk wr w.heap.size 9 #[.string s] ∧ Blk wr (w.heap.size + 1) 3 #[.int .i64 (k : Int)] ∧ Own1 wr (w.heap.size + 1 + 1) 110 4 Tok.Is v toks ∧ Below w.heap.size w wr
theorem ScanSt.keep {w : World} {s : ByteArray} {k : Nat} {v : Value} {toks : List Tok} {wr W : World} (h : ScanSt w s k v toks wr) (hb : Below wr.heap.size wr W) : ScanSt w s k v toks W :=
  ⟨h.1.below hb h.1.lt, h.2.1.below hb h.2.1.lt, h.2.2.1.below hb zL, h.2.2.2.trans (hb.mono (Nat.le_of_lt h.1.lt))⟩
theorem ScanSt.at_ {w : World} {s : ByteArray} {k : Nat} {v : Value} {toks : List Tok} {wr : World} (h : ScanSt w s k v toks wr) (k' : Nat) {u : Value} (hu : u = .int .i64 (k' : Int)) : ScanSt w s k' v toks (wr.setCell ⟨w.heap.size + 1, 0, none⟩ u) := by
  subst hu
  exact ⟨h.1.far (by simp) _, h.2.1.set_ 0 _, h.2.2.1.setFar (by show w.heap.size + 1 < _; omega) _, h.2.2.2.setCell (by show w.heap.size ≤ w.heap.size + 1; omega) _⟩
theorem ScanSt.grown {w : World} {s : ByteArray} {k : Nat} {v v' : Value} {toks toks' : List Tok} {W w4 : World} (h : ScanSt w s k v toks W) (hg : W.grownBy w4 v.ownBlock) (h' : Own1 w4 (w.heap.size + 1 + 1) 110 4 Tok.Is v' toks') : ScanSt w s k v' toks' w4 := by
  have hb := h.2.2.1.block
  refine ⟨h.1.grown hg (fun e => ?_), h.2.1.grown hg (fun e => ?_), h', h.2.2.2.grown hg (Nat.le_trans zL (by have := h.1.lt; omega)) (fun g hg' => by have := (hb g hg').1; omega)⟩
  · have := (hb _ e.symm).1; omega
  · have := (hb _ e.symm).1; omega
theorem ScanSt.cell_at {w : World} {s : ByteArray} {k : Nat} {v : Value} {toks : List Tok} {wr : World} (h : ScanSt w s k v toks wr) : atCell wr (w.heap.size + 1) = k := atCell_of h.2.1
def TokSt (wr W : World) (cs : Array Value) : Prop := Below wr.heap.size wr W ∧ Blk W wr.heap.size 110 cs
theorem TokSt.new (wr : World) (cs : Array Value) : TokSt wr (wr.alloc (.cells cs 110)) cs := ⟨zB.alloc zL _, Blk.new wr _ _⟩
theorem TokSt.set {wr W : World} {cs : Array Value} (h : TokSt wr W cs) (i : Nat) (u : Value) : TokSt wr (W.setCell ⟨wr.heap.size, i, none⟩ u) (cs.setIfInBounds i u) := ⟨h.1.setCell zL _, h.2.set_ i u⟩
theorem TokSt.call {wr W w1 : World} {cs : Array Value} (h : TokSt wr W cs) (hb : Below W.heap.size W w1) : TokSt wr w1 cs := ⟨h.1.trans (hb.mono h.1.size), h.2.below hb h.2.lt⟩
theorem TokSt.quiet {wr W w1 : World} {cs : Array Value} (h : TokSt wr W cs) (hb : Quiet W w1) : TokSt wr w1 cs := h.call (hb.below _)
theorem TokSt.alloc {wr W : World} {cs : Array Value} (h : TokSt wr W cs) (o : Obj) : TokSt wr (W.alloc o) cs := h.call (zB.alloc zL _)
theorem TokSt.drew {wr W : World} {cs : Array Value} (h : TokSt wr W cs) : TokSt wr W.drew cs := ⟨⟨h.1.os, h.1.tape, h.1.output, h.1.size, h.1.block⟩, h.2⟩
theorem SlR.drew_ {α : Type} {w : World} {B size : Nat} {R : List Value → α → Prop} {v : Value} {l : List α} (h : SlR w B size R v l) : SlR w.drew B size R v l := h
theorem TokSt.facts {w : World} {s : ByteArray} {k : Nat} {v : Value} {toks : List Tok} {wr W : World} {cs : Array Value} (h : TokSt wr W cs) (hs : ScanSt w s k v toks wr) :
    W.cell? ⟨w.heap.size, 0, none⟩ = some (.string s) ∧ W.cell? ⟨w.heap.size + 1, 0, none⟩ = some (.int .i64 (k : Int)) ∧ W.frozen? ⟨w.heap.size + 1, 0, none⟩ = false ∧ W.frozen? ⟨wr.heap.size, 0, none⟩ = false ∧ W.frozen? ⟨wr.heap.size, 1, none⟩ = false ∧ W.frozen? ⟨wr.heap.size, 2, none⟩ = false ∧ w.heap.size + 1 < W.heap.size ∧ wr.heap.size < W.heap.size :=
  have hk := hs.keep h.1
  ⟨hk.1.cell (i := 0) rfl, hk.2.1.cell (i := 0) rfl, hk.2.1.frozen 0, h.2.frozen 0, h.2.frozen 1, h.2.frozen 2, hk.2.1.lt, h.2.lt⟩
theorem scan_any (s : ByteArray) (hs : s.size ≤ maxLen) (w : World) (hm : Marks w) : Calls Tryd.prog 53 #[.string s] w (ScanIs w (scanN (bs s))) := by
  unfold maxLen at hs
  obtain ⟨j, hi, hz, hsz, hby⟩ := info_parts info_tok
  have I := zH (And.intro hi (And.intro hz (And.intro hsz hby)))
  clear hi hz hsz hby
  obtain ⟨n, hn⟩ : ∃ n, s.size = n := ⟨_, rfl⟩
  have hln : (bs s).length = n := by rw [bs_len, hn]
  rw [hn] at hs
  have hn' : (s.size : Int) = (n : Int) := by rw [hn]
  have Hn := zH (And.intro hn hln)
  have Hm := zH hm
  clear hm
  by_cases hbig : 4096 < n
  · have hv : scanN (bs s) = ([], 0, 3) := by unfold scanN; rw [hln, if_pos hbig]
    have HV := zH hv
    clear hv hln hn
    go_enter Tryd.func53, Tryd.ntmps53
    go_wp2_with fail
    go_ret3
    exact ScanIs.no rfl (zB.alloc zL _) HV.out
  obtain ⟨R, hR⟩ : ∃ R, scanT (bs s) (n + 1) 0 [] = R := ⟨_, rfl⟩
  have hv : scanN (bs s) = R := by unfold scanN; rw [hln, if_neg hbig, hR]
  have HR := zH (And.intro hv hR)
  have hsmall : n ≤ 4096 := by omega
  have hdbig : decide (4096 < (n : Int)) = false := by simp; omega
  clear hv hR hln hn
  go_enter Tryd.func53, Tryd.ntmps53
  go_wp2_with fail
  go_loopw [5] (fun out wr => ∃ (k f a : Nat) (oa : Option Addr) (on oc : Nat) (toks : List Tok), k ≤ n ∧ n < f + k ∧ a ≤ k ∧ out = .slice oa on oc ∧ Hid (scanT (bs s) f k toks = R) ∧ Hid (ScanSt w s k (.slice oa on oc) toks wr ∧ toks.length = a)) (fun _ wr => n - atCell wr (w.heap.size + 1))
  case atStart =>
    have hB0 : Blk (w.alloc (.cells #[.string s] 9)) w.heap.size 9 #[.string s] := Blk.new w _ _
    have hB1 := Blk.new_ (w := w.alloc (.cells #[.string s] 9)) (g := w.heap.size + 1) (by rw [World.size_alloc]) 3 #[.int .i64 0]
    exact ⟨0, n + 1, 0, none, 0, 0, [], by omega, by omega, by omega, rfl, HR.out.2, ⟨hB0.alloc _, hB1, ⟨[], World.ownsRow_nil _ _ _ _, FlatR.nil_⟩, ((Below.refl w.heap.size w).alloc zL _).alloc (below2 zL) _⟩, rfl⟩
  case round =>
    obtain ⟨k, f, a, oa, on, oc, toks, hk, hf, ha, rfl, hu, hB⟩ := hrel
    have b1 : (0 : Int) ≤ (k : Int) := Int.natCast_nonneg _
    have hC0 := hB.out.1.1.cell (i := 0) rfl
    have hC1 := hB.out.1.2.1.cell (i := 0) rfl
    have hF1 := hB.out.1.2.1.frozen 0
    have hlt0 : w.heap.size < wr.heap.size := hB.out.1.1.lt
    have hlt1 : w.heap.size + 1 < wr.heap.size := hB.out.1.2.1.lt
    have hat := hB.out.1.cell_at
    have Hat := zH hat
    clear hat
    by_cases hlt : k < n
    · obtain ⟨c, hc, c256⟩ := get_bs (s := s) (k := k) (by rw [Hn.out.1]; exact hlt)
      have i1 := fun W => index_txt W 9 Tryd.underlying9 hc .i64 _ rfl
      have hdrop := drop_bs hc
      have Hc := zH hc
      clear hc
      by_cases hb : c = 32
      · subst hb
        have hv := scan_blank hu.out (by omega) Hc.out (by omega)
        have HV := zH hv
        clear hv hu hdrop Hc
        go_wp2_with fail
        have ST := (hB.out.1.at_ (k + 1) (u := .int .i64 ((k : Int) + 1)) (by go_num)).keep (zB.alloc zL (.cells #[.int .i64 0, .string ⟨#[]⟩, .int .i64 0, .int .i64 (k : Int)] 110))
        go_roundw
        case rel => exact ⟨k + 1, f - 1, a, oa, on, oc, toks, by omega, by omega, by omega, rfl, HV.out, ST, hB.out.2⟩
        case measure => rw [Hat.out, ST.cell_at]; omega
      by_cases hb : c = 10
      · subst hb
        have hv := scan_blank hu.out (by omega) Hc.out (by omega)
        have HV := zH hv
        clear hv hu hdrop Hc
        go_wp2_with fail
        have ST := (hB.out.1.at_ (k + 1) (u := .int .i64 ((k : Int) + 1)) (by go_num)).keep (zB.alloc zL (.cells #[.int .i64 0, .string ⟨#[]⟩, .int .i64 0, .int .i64 (k : Int)] 110))
        go_roundw
        case rel => exact ⟨k + 1, f - 1, a, oa, on, oc, toks, by omega, by omega, by omega, rfl, HV.out, ST, hB.out.2⟩
        case measure => rw [Hat.out, ST.cell_at]; omega
      have c1 : ((c : Int) == 32) = false := by simp; omega
      have c2 : ((c : Int) == 10) = false := by simp; omega
      have hnb : ¬ (c = 32 ∨ c = 10) := by omega
      have hbz := hB.out.1.2.2.2.size
      by_cases h34 : c = 34
      · subst h34
        obtain ⟨Q, hQ⟩ : ∃ Q, quoteAt (bs s) k = Q := ⟨_, rfl⟩
        have UQ : Hid (∀ W, Calls Tryd.prog 41 #[.string s, .int .i64 (k : Int)] W fun e w' => e = .returned (.tuple #[.string (txt Q.1), .int .i64 (Q.2.1 : Int), .int .i64 (Q.2.2 : Int)]) ∧ Below W.heap.size W w') := zH (fun W => by
          have := unquote_any s (k : Int) (wf_in (by omega) (by omega)) (by rw [Hn.out.1]; omega) W
          rw [unquote_at Hc.out, hQ] at this
          exact this)
        obtain ⟨q1, q2, q3⟩ := Q
        by_cases hq3 : q3 = 0
        · subst hq3
          have hby : Bytes (bs s) := bs_bytes s
          obtain ⟨g1, g2, g3⟩ := unq_some _ _ _ _ _ _ hby bytes_nil hQ
          have g4 := unq_len _ _ _ _ _ _ _ hQ rfl hby
          rw [Hn.out.2] at g3
          simp only [List.length_nil] at g4
          have hv := scan_quote hu.out (by omega) Hc.out hQ
          have HV := zH hv
          have HT : Hid (Tok.Is [.int .i64 2, .string (txt q1), .int .i64 0, .int .i64 (k : Int)] ⟨((2 : Nat) : Int), q1, 0, (k : Int)⟩) := zH ⟨rfl, Tok.mk_ok (k := 2) g1 (by omega) (by omega) (by omega) (by omega) (by omega)⟩
          clear hv hu hdrop Hc hQ hby g1 g4
          go_wp2_with (first
            | (go_at_call 41
               refine (UQ.out _).mono ?_
               rintro e w1 ⟨rfl, qq⟩
               have T1 : Hid (TokSt wr w1 #[Value.int .i64 0, Value.string ⟨#[]⟩, Value.int .i64 0, Value.int .i64 (k : Int)]) := zH ((TokSt.new wr _).call qq)
               have t0 := T1.out.2.cell (i := 0) rfl
               have t1 := T1.out.2.cell (i := 1) rfl
               have t2 := T1.out.2.cell (i := 2) rfl
               have t3 := T1.out.2.cell (i := 3) rfl
               obtain ⟨d0, d1, d2, d3, d4, d5, d6, d7⟩ := T1.out.facts hB.out.1
               clear qq)
            | (at_builtin
               go_must (refine wpList_append_list rfl (.tmp 107) (.tmp 109) _ rfl (w.heap.size + 1 + 1) _ 110 j _ 4 40 Tryd.underlying81 I.out.1 I.out.2.1 I.out.2.2.1 I.out.2.2.2 rfl (by omega) (R := Tok.Is) (l := toks) (m := [⟨((2 : Nat) : Int), q1, 0, (k : Int)⟩]) (.slice oa on oc) rfl (by exact (hB.out.1.keep (((T1.out.set 0 (.int .i64 2)).set 1 (.string (txt q1))).alloc _).1).2.2.1) (some ⟨w1.heap.size, 0, none⟩) 1 1 rfl (by exact (SlR.new1 (by simp [World.setCell]) rfl HT.out)) (a + 1) (by rw [hB.out.2]) Tok.Is.one (by rw [hB.out.2]; unfold maxLen; omega) (by rw [hB.out.2]; omega) (by simp [World.setCell]; omega) ?_)
               intro xa xc w9 hown hgr
               have ST9 : Hid (ScanSt w s k (.slice xa (a + 1) xc) (toks ++ [⟨((2 : Nat) : Int), q1, 0, (k : Int)⟩]) w9) := zH ((hB.out.1.keep (((T1.out.set 0 (.int .i64 2)).set 1 (.string (txt q1))).alloc _).1).grown hgr hown)
               have e0 := ST9.out.2.1.cell (i := 0) rfl
               have e1 := ST9.out.2.1.frozen 0
               have e2 : w.heap.size + 1 < w9.heap.size := ST9.out.2.1.lt
               clear hown hgr d0 d1 d2 d3 d4 d5 d6 d7 t0 t1 t2 t3))
          have ST := ST9.out.at_ (q2) (u := .int .i64 ((q2 : Int))) (by rfl)
          go_roundw
          case rel => exact ⟨q2, f - 1, a + 1, xa, a + 1, xc, _, by omega, by omega, by omega, rfl, HV.out, ST, by simp [hB.out.2]⟩
          case measure => rw [Hat.out, ST.cell_at]; omega
        · have h10 : q3 = 10 := unq_err _ _ _ _ _ _ _ hQ hq3
          subst h10
          have hv := scan_quote_no hu.out (by omega) Hc.out hQ (by omega)
          have HV := zH hv
          clear hv hu hdrop Hc hQ hq3
          go_wp2_with (first
            | (go_at_call 41
               refine (UQ.out _).mono ?_
               rintro e w1 ⟨rfl, qq⟩
               have T1 : Hid (TokSt wr w1 #[Value.int .i64 0, Value.string ⟨#[]⟩, Value.int .i64 0, Value.int .i64 (k : Int)]) := zH ((TokSt.new wr _).call qq)
               have t0 := T1.out.2.cell (i := 0) rfl
               have t1 := T1.out.2.cell (i := 1) rfl
               have t2 := T1.out.2.cell (i := 2) rfl
               have t3 := T1.out.2.cell (i := 3) rfl
               obtain ⟨d0, d1, d2, d3, d4, d5, d6, d7⟩ := T1.out.facts hB.out.1
               clear qq))
          (try simp only [Exit.inBlock, Exit.then, Exit.noGoto_ret])
          go_ret3
          exact ScanIs.no (by first | rfl | (push_cast; rfl)) (hB.out.1.keep ((T1.out.set 0 (.int .i64 2)).set 1 (.string (txt q1))).1).2.2.2 (by rw [HR.out.1, HV.out])
      have c3 : ((c : Int) == 34) = false := by simp; omega
      have hby : Bytes ((bs s).drop k) := fun x hx => bs_bytes s x (List.mem_of_mem_drop hx)
      by_cases hdig : 48 ≤ c ∧ c ≤ 57
      · have D := zH (fun W => lex_digit c true (by simp [figN]; omega) W)
        obtain ⟨Q, hQ⟩ : ∃ Q, numScan ((bs s).drop k) 0 0 = Q := ⟨_, rfl⟩
        have NU := zH (fun W => lex_number s k (by rw [Hn.out.1]; omega) (by rw [Hn.out.1]; omega) Q hQ W)
        have hsp : stepP ((bs s).drop k) = if Q.2.2 then (some (1, [], (Q.1 : Int)), Q.2.1) else (none, Q.2.1) := by
          rw [hdrop] at hQ ⊢
          simp only [stepP]
          rw [if_pos hdig, hQ]
        obtain ⟨q1, q2, q3⟩ := Q
        cases q3 with
        | true =>
          rw [if_pos rfl] at hsp
          obtain ⟨g1, g2, g3, g4, g5, g6⟩ := step_some hby hsp
          rw [List.length_drop, Hn.out.2] at g2
          have hv := scan_step hu.out (by omega) Hc.out hnb h34 hsp
          have HV := zH hv
          have HT : Hid (Tok.Is [.int .i64 1, .string ⟨#[]⟩, .int .i64 (q1 : Int), .int .i64 (k : Int)] ⟨((1 : Nat) : Int), [], (q1 : Int), (k : Int)⟩) := zH ⟨rfl, Tok.mk_ok (k := 1) bytes_nil (Nat.zero_le _) (by omega) (by omega) g5 g6⟩
          clear hv hu hdrop Hc hsp hQ g3 g5 g6 hby
          go_wp2_with (first
            | (go_at_call 73
               refine (D.out _).mono ?_
               rintro e w1 ⟨rfl, qq⟩
               have T1 : Hid (TokSt wr w1 #[Value.int .i64 0, Value.string ⟨#[]⟩, Value.int .i64 0, Value.int .i64 (k : Int)]) := zH ((TokSt.new wr _).quiet qq)
               have t0 := T1.out.2.cell (i := 0) rfl
               have t1 := T1.out.2.cell (i := 1) rfl
               have t2 := T1.out.2.cell (i := 2) rfl
               have t3 := T1.out.2.cell (i := 3) rfl
               obtain ⟨d0, d1, d2, d3, d4, d5, d6, d7⟩ := T1.out.facts hB.out.1
               clear qq)
            | (go_at_call 74
               refine (NU.out _).mono ?_
               rintro e w2 ⟨rfl, qq⟩
               have T2 : Hid (TokSt wr w2 #[Value.int .i64 1, Value.string ⟨#[]⟩, Value.int .i64 0, Value.int .i64 (k : Int)]) := zH ((T1.out.set 0 (.int .i64 1)).quiet qq)
               clear d0 d1 d2 d3 d4 d5 d6 d7 t0 t1 t2 t3
               have t0 := T2.out.2.cell (i := 0) rfl
               have t1 := T2.out.2.cell (i := 1) rfl
               have t2 := T2.out.2.cell (i := 2) rfl
               have t3 := T2.out.2.cell (i := 3) rfl
               obtain ⟨d0, d1, d2, d3, d4, d5, d6, d7⟩ := T2.out.facts hB.out.1
               clear qq)
            | (at_builtin
               go_must (refine wpList_append_list rfl (.tmp 107) (.tmp 109) _ rfl (w.heap.size + 1 + 1) _ 110 j _ 4 40 Tryd.underlying81 I.out.1 I.out.2.1 I.out.2.2.1 I.out.2.2.2 rfl (by omega) (R := Tok.Is) (l := toks) (m := [⟨((1 : Nat) : Int), [], (q1 : Int), (k : Int)⟩]) (.slice oa on oc) rfl (by exact (hB.out.1.keep ((T2.out.set 2 (.int .i64 (q1 : Int))).alloc _).1).2.2.1) (some ⟨w2.heap.size, 0, none⟩) 1 1 rfl (by exact (SlR.new1 (by simp [World.setCell]) rfl HT.out)) (a + 1) (by rw [hB.out.2]) Tok.Is.one (by rw [hB.out.2]; unfold maxLen; omega) (by rw [hB.out.2]; omega) (by simp [World.setCell]; omega) ?_)
               intro xa xc w9 hown hgr
               have ST9 : Hid (ScanSt w s k (.slice xa (a + 1) xc) (toks ++ [⟨((1 : Nat) : Int), [], (q1 : Int), (k : Int)⟩]) w9) := zH ((hB.out.1.keep ((T2.out.set 2 (.int .i64 (q1 : Int))).alloc _).1).grown hgr hown)
               have e0 := ST9.out.2.1.cell (i := 0) rfl
               have e1 := ST9.out.2.1.frozen 0
               have e2 : w.heap.size + 1 < w9.heap.size := ST9.out.2.1.lt
               clear hown hgr d0 d1 d2 d3 d4 d5 d6 d7 t0 t1 t2 t3))
          have ST := ST9.out.at_ (k + q2) (u := .int .i64 ((k : Int) + (q2 : Int))) (by go_num)
          go_roundw
          case rel => exact ⟨k + q2, f - 1, a + 1, xa, a + 1, xc, _, by omega, by omega, by omega, rfl, HV.out, ST, by simp [hB.out.2]⟩
          case measure => rw [Hat.out, ST.cell_at]; omega
        | false =>
          rw [if_neg (by simp)] at hsp
          have hv := scan_step_no hu.out (by omega) Hc.out hnb h34 hsp
          have HV := zH hv
          clear hv hu hdrop Hc hsp hQ hby
          go_wp2_with (first
            | (go_at_call 73
               refine (D.out _).mono ?_
               rintro e w1 ⟨rfl, qq⟩
               have T1 : Hid (TokSt wr w1 #[Value.int .i64 0, Value.string ⟨#[]⟩, Value.int .i64 0, Value.int .i64 (k : Int)]) := zH ((TokSt.new wr _).quiet qq)
               have t0 := T1.out.2.cell (i := 0) rfl
               have t1 := T1.out.2.cell (i := 1) rfl
               have t2 := T1.out.2.cell (i := 2) rfl
               have t3 := T1.out.2.cell (i := 3) rfl
               obtain ⟨d0, d1, d2, d3, d4, d5, d6, d7⟩ := T1.out.facts hB.out.1
               clear qq)
            | (go_at_call 74
               refine (NU.out _).mono ?_
               rintro e w2 ⟨rfl, qq⟩
               have T2 : Hid (TokSt wr w2 #[Value.int .i64 1, Value.string ⟨#[]⟩, Value.int .i64 0, Value.int .i64 (k : Int)]) := zH ((T1.out.set 0 (.int .i64 1)).quiet qq)
               clear d0 d1 d2 d3 d4 d5 d6 d7 t0 t1 t2 t3
               have t0 := T2.out.2.cell (i := 0) rfl
               have t1 := T2.out.2.cell (i := 1) rfl
               have t2 := T2.out.2.cell (i := 2) rfl
               have t3 := T2.out.2.cell (i := 3) rfl
               obtain ⟨d0, d1, d2, d3, d4, d5, d6, d7⟩ := T2.out.facts hB.out.1
               clear qq))
          (try simp only [Exit.inBlock, Exit.then, Exit.noGoto_ret])
          go_ret3
          exact ScanIs.no (by first | rfl | (push_cast; rfl)) (hB.out.1.keep (T2.out.set 2 (.int .i64 (q1 : Int))).1).2.2.2 (by rw [HR.out.1, HV.out])
      have hd0 : figN c = false := by simp [figN]; omega
      have D := zH (fun W => lex_digit c false hd0 W)
      by_cases hlet : letterN c = true
      · have L := zH (fun W => lex_letter c true hlet W)
        obtain ⟨q, hq⟩ : ∃ q, ((bs s).drop k).takeWhile furtherN = q := ⟨_, rfl⟩
        have RN : Hid (∀ W, Blk W w.heap.size 9 #[.string s] → Blk W (w.heap.size + 1) 3 #[.int .i64 (k : Int)] → Calls Tryd.prog 71 #[.pointer (some ⟨w.heap.size + 1, 0, none⟩), .pointer (some ⟨w.heap.size, 0, none⟩)] W fun e w' => e = .returned (.string (txt q)) ∧ Quiet W w') := zH (fun W h1 h2 => by
          have := lex_run s k (by rw [Hn.out.1]; omega) (by rw [Hn.out.1]; omega) W _ _ h1 h2
          rw [hq] at this
          exact this)
        have hqb : Bytes q := fun x hx => hby x (by rw [← hq] at hx; exact (List.takeWhile_sublist _).subset hx)
        have hql : q.length ≤ n - k := by
          rw [← hq, ← Hn.out.2, ← List.length_drop]
          exact takeWhile_le _
        have hqz : ((txt q).size : Int) = (q.length : Int) := by rw [txt_size]
        have hsp : stepP ((bs s).drop k) = (if q.length ≤ 32 then (some (if q ∈ wordsL then 4 else 3, q, 0), q.length) else (none, 32)) := by
          rw [hdrop] at hq ⊢
          simp only [stepP]
          rw [if_neg hdig, if_pos hlet, hq]
        by_cases hw : q ∈ wordsL
        · have RV : Hid (∀ W, Calls Tryd.prog 76 #[.string (txt q)] W fun e w' => e = .returned (.bool true) ∧ Quiet W w') := zH (fun W => by
            have := lex_reserved_any (txt q) W
            rw [bs_txt hqb, decide_eq_true hw] at this
            exact this)
          by_cases h32 : q.length ≤ 32
          · rw [if_pos h32, if_pos hw] at hsp
            obtain ⟨g1, g2, g3, g4, g5, g6⟩ := step_some hby hsp
            have hv := scan_step hu.out (by omega) Hc.out hnb h34 hsp
            have HV := zH hv
            have HT : Hid (Tok.Is [.int .i64 4, .string (txt q), .int .i64 0, .int .i64 (k : Int)] ⟨((4 : Nat) : Int), q, 0, (k : Int)⟩) := zH ⟨rfl, Tok.mk_ok (k := 4) g3 (by omega) (by omega) (by omega) (by omega) (by omega)⟩
            have h32' : decide ((q.length : Int) ≤ 32) = true := by simp; omega
            clear hv hu hdrop Hc hsp hq hby hqb g3 g5 g6 hw hd0 hlet
            go_wp2_with (first
              | (go_at_call 73
                 refine (D.out _).mono ?_
                 rintro e w1 ⟨rfl, qq⟩
                 have T1 : Hid (TokSt wr w1 #[Value.int .i64 0, Value.string ⟨#[]⟩, Value.int .i64 0, Value.int .i64 (k : Int)]) := zH ((TokSt.new wr _).quiet qq)
                 have t0 := T1.out.2.cell (i := 0) rfl
                 have t1 := T1.out.2.cell (i := 1) rfl
                 have t2 := T1.out.2.cell (i := 2) rfl
                 have t3 := T1.out.2.cell (i := 3) rfl
                 obtain ⟨d0, d1, d2, d3, d4, d5, d6, d7⟩ := T1.out.facts hB.out.1
                 clear qq)
              | (go_at_call 75
                 refine (L.out _).mono ?_
                 rintro e w2 ⟨rfl, qq⟩
                 have T2 : Hid (TokSt wr w2 #[Value.int .i64 0, Value.string ⟨#[]⟩, Value.int .i64 0, Value.int .i64 (k : Int)]) := zH ((T1.out).quiet qq)
                 clear d0 d1 d2 d3 d4 d5 d6 d7 t0 t1 t2 t3
                 have t0 := T2.out.2.cell (i := 0) rfl
                 have t1 := T2.out.2.cell (i := 1) rfl
                 have t2 := T2.out.2.cell (i := 2) rfl
                 have t3 := T2.out.2.cell (i := 3) rfl
                 obtain ⟨d0, d1, d2, d3, d4, d5, d6, d7⟩ := T2.out.facts hB.out.1
                 clear qq)
              | (go_at_call 71
                 refine (RN.out _ (hB.out.1.keep T2.out.1).1 (hB.out.1.keep T2.out.1).2.1).mono ?_
                 rintro e w3 ⟨rfl, qq⟩
                 have T3 : Hid (TokSt wr w3 #[Value.int .i64 0, Value.string ⟨#[]⟩, Value.int .i64 0, Value.int .i64 (k : Int)]) := zH ((T2.out).quiet qq)
                 clear d0 d1 d2 d3 d4 d5 d6 d7 t0 t1 t2 t3
                 have t0 := T3.out.2.cell (i := 0) rfl
                 have t1 := T3.out.2.cell (i := 1) rfl
                 have t2 := T3.out.2.cell (i := 2) rfl
                 have t3 := T3.out.2.cell (i := 3) rfl
                 obtain ⟨d0, d1, d2, d3, d4, d5, d6, d7⟩ := T3.out.facts hB.out.1
                 clear qq)
              | (go_at_call 76
                 refine (RV.out _).mono ?_
                 rintro e w4 ⟨rfl, qq⟩
                 have T4 : Hid (TokSt wr w4 #[Value.int .i64 3, Value.string (txt q), Value.int .i64 0, Value.int .i64 (k : Int)]) := zH (((T3.out.set 0 (.int .i64 3)).set 1 (.string (txt q))).quiet qq)
                 clear d0 d1 d2 d3 d4 d5 d6 d7 t0 t1 t2 t3
                 have t0 := T4.out.2.cell (i := 0) rfl
                 have t1 := T4.out.2.cell (i := 1) rfl
                 have t2 := T4.out.2.cell (i := 2) rfl
                 have t3 := T4.out.2.cell (i := 3) rfl
                 obtain ⟨d0, d1, d2, d3, d4, d5, d6, d7⟩ := T4.out.facts hB.out.1
                 clear qq))
            go_region
            go_wp2_with (first
              | (at_builtin
                 go_must (refine wpList_append_list rfl (.tmp 107) (.tmp 109) _ rfl (w.heap.size + 1 + 1) _ 110 j _ 4 40 Tryd.underlying81 I.out.1 I.out.2.1 I.out.2.2.1 I.out.2.2.2 rfl (by omega) (R := Tok.Is) (l := toks) (m := [⟨((4 : Nat) : Int), q, 0, (k : Int)⟩]) (.slice oa on oc) rfl (by exact (hB.out.1.keep ((T4.out.set 0 (.int .i64 4)).alloc _).drew.1).2.2.1) (some ⟨w4.heap.size, 0, none⟩) 1 1 rfl (by exact SlR.drew_ (SlR.new1 (by simp [World.setCell]) rfl HT.out)) (a + 1) (by rw [hB.out.2]) Tok.Is.one (by rw [hB.out.2]; unfold maxLen; omega) (by rw [hB.out.2]; omega) (by simp [World.setCell]; omega) ?_)
                 intro xa xc w9 hown hgr
                 have ST9 : Hid (ScanSt w s k (.slice xa (a + 1) xc) (toks ++ [⟨((4 : Nat) : Int), q, 0, (k : Int)⟩]) w9) := zH ((hB.out.1.keep ((T4.out.set 0 (.int .i64 4)).alloc _).drew.1).grown hgr hown)
                 have e0 := ST9.out.2.1.cell (i := 0) rfl
                 have e1 := ST9.out.2.1.frozen 0
                 have e2 : w.heap.size + 1 < w9.heap.size := ST9.out.2.1.lt
                 clear hown hgr d0 d1 d2 d3 d4 d5 d6 d7 t0 t1 t2 t3))
            have ST := ST9.out.at_ (k + q.length) (u := .int .i64 ((k : Int) + (q.length : Int))) (by go_num)
            go_roundw
            case rel => exact ⟨k + q.length, f - 1, a + 1, xa, a + 1, xc, _, by omega, by omega, by omega, rfl, HV.out, ST, by simp [hB.out.2]⟩
            case measure => rw [Hat.out, ST.cell_at]; omega
          · rw [if_neg h32] at hsp
            have hv := scan_step_no hu.out (by omega) Hc.out hnb h34 hsp
            have HV := zH hv
            have h32' : decide ((q.length : Int) ≤ 32) = false := by simp; omega
            clear hv hu hdrop Hc hsp hq hby hqb hw hd0 hlet
            go_wp2_with (first
              | (go_at_call 73
                 refine (D.out _).mono ?_
                 rintro e w1 ⟨rfl, qq⟩
                 have T1 : Hid (TokSt wr w1 #[Value.int .i64 0, Value.string ⟨#[]⟩, Value.int .i64 0, Value.int .i64 (k : Int)]) := zH ((TokSt.new wr _).quiet qq)
                 have t0 := T1.out.2.cell (i := 0) rfl
                 have t1 := T1.out.2.cell (i := 1) rfl
                 have t2 := T1.out.2.cell (i := 2) rfl
                 have t3 := T1.out.2.cell (i := 3) rfl
                 obtain ⟨d0, d1, d2, d3, d4, d5, d6, d7⟩ := T1.out.facts hB.out.1
                 clear qq)
              | (go_at_call 75
                 refine (L.out _).mono ?_
                 rintro e w2 ⟨rfl, qq⟩
                 have T2 : Hid (TokSt wr w2 #[Value.int .i64 0, Value.string ⟨#[]⟩, Value.int .i64 0, Value.int .i64 (k : Int)]) := zH ((T1.out).quiet qq)
                 clear d0 d1 d2 d3 d4 d5 d6 d7 t0 t1 t2 t3
                 have t0 := T2.out.2.cell (i := 0) rfl
                 have t1 := T2.out.2.cell (i := 1) rfl
                 have t2 := T2.out.2.cell (i := 2) rfl
                 have t3 := T2.out.2.cell (i := 3) rfl
                 obtain ⟨d0, d1, d2, d3, d4, d5, d6, d7⟩ := T2.out.facts hB.out.1
                 clear qq)
              | (go_at_call 71
                 refine (RN.out _ (hB.out.1.keep T2.out.1).1 (hB.out.1.keep T2.out.1).2.1).mono ?_
                 rintro e w3 ⟨rfl, qq⟩
                 have T3 : Hid (TokSt wr w3 #[Value.int .i64 0, Value.string ⟨#[]⟩, Value.int .i64 0, Value.int .i64 (k : Int)]) := zH ((T2.out).quiet qq)
                 clear d0 d1 d2 d3 d4 d5 d6 d7 t0 t1 t2 t3
                 have t0 := T3.out.2.cell (i := 0) rfl
                 have t1 := T3.out.2.cell (i := 1) rfl
                 have t2 := T3.out.2.cell (i := 2) rfl
                 have t3 := T3.out.2.cell (i := 3) rfl
                 obtain ⟨d0, d1, d2, d3, d4, d5, d6, d7⟩ := T3.out.facts hB.out.1
                 clear qq)
              | (go_at_call 76
                 refine (RV.out _).mono ?_
                 rintro e w4 ⟨rfl, qq⟩
                 have T4 : Hid (TokSt wr w4 #[Value.int .i64 3, Value.string (txt q), Value.int .i64 0, Value.int .i64 (k : Int)]) := zH (((T3.out.set 0 (.int .i64 3)).set 1 (.string (txt q))).quiet qq)
                 clear d0 d1 d2 d3 d4 d5 d6 d7 t0 t1 t2 t3
                 have t0 := T4.out.2.cell (i := 0) rfl
                 have t1 := T4.out.2.cell (i := 1) rfl
                 have t2 := T4.out.2.cell (i := 2) rfl
                 have t3 := T4.out.2.cell (i := 3) rfl
                 obtain ⟨d0, d1, d2, d3, d4, d5, d6, d7⟩ := T4.out.facts hB.out.1
                 clear qq))
            go_region
            go_wp2_with fail
            (try simp only [Exit.inBlock, Exit.then, Exit.noGoto_ret])
            go_ret3
            exact ScanIs.no (by first | rfl | (push_cast; rfl)) (hB.out.1.keep ((T4.out.set 0 (.int .i64 4)).drew).1).2.2.2 (by rw [HR.out.1, HV.out])
        · have RV : Hid (∀ W, Calls Tryd.prog 76 #[.string (txt q)] W fun e w' => e = .returned (.bool false) ∧ Quiet W w') := zH (fun W => by
            have := lex_reserved_any (txt q) W
            rw [bs_txt hqb, decide_eq_false hw] at this
            exact this)
          by_cases h32 : q.length ≤ 32
          · rw [if_pos h32, if_neg hw] at hsp
            obtain ⟨g1, g2, g3, g4, g5, g6⟩ := step_some hby hsp
            have hv := scan_step hu.out (by omega) Hc.out hnb h34 hsp
            have HV := zH hv
            have HT : Hid (Tok.Is [.int .i64 3, .string (txt q), .int .i64 0, .int .i64 (k : Int)] ⟨((3 : Nat) : Int), q, 0, (k : Int)⟩) := zH ⟨rfl, Tok.mk_ok (k := 3) g3 (by omega) (by omega) (by omega) (by omega) (by omega)⟩
            have h32' : decide ((q.length : Int) ≤ 32) = true := by simp; omega
            clear hv hu hdrop Hc hsp hq hby hqb g3 g5 g6 hw hd0 hlet
            go_wp2_with (first
              | (go_at_call 73
                 refine (D.out _).mono ?_
                 rintro e w1 ⟨rfl, qq⟩
                 have T1 : Hid (TokSt wr w1 #[Value.int .i64 0, Value.string ⟨#[]⟩, Value.int .i64 0, Value.int .i64 (k : Int)]) := zH ((TokSt.new wr _).quiet qq)
                 have t0 := T1.out.2.cell (i := 0) rfl
                 have t1 := T1.out.2.cell (i := 1) rfl
                 have t2 := T1.out.2.cell (i := 2) rfl
                 have t3 := T1.out.2.cell (i := 3) rfl
                 obtain ⟨d0, d1, d2, d3, d4, d5, d6, d7⟩ := T1.out.facts hB.out.1
                 clear qq)
              | (go_at_call 75
                 refine (L.out _).mono ?_
                 rintro e w2 ⟨rfl, qq⟩
                 have T2 : Hid (TokSt wr w2 #[Value.int .i64 0, Value.string ⟨#[]⟩, Value.int .i64 0, Value.int .i64 (k : Int)]) := zH ((T1.out).quiet qq)
                 clear d0 d1 d2 d3 d4 d5 d6 d7 t0 t1 t2 t3
                 have t0 := T2.out.2.cell (i := 0) rfl
                 have t1 := T2.out.2.cell (i := 1) rfl
                 have t2 := T2.out.2.cell (i := 2) rfl
                 have t3 := T2.out.2.cell (i := 3) rfl
                 obtain ⟨d0, d1, d2, d3, d4, d5, d6, d7⟩ := T2.out.facts hB.out.1
                 clear qq)
              | (go_at_call 71
                 refine (RN.out _ (hB.out.1.keep T2.out.1).1 (hB.out.1.keep T2.out.1).2.1).mono ?_
                 rintro e w3 ⟨rfl, qq⟩
                 have T3 : Hid (TokSt wr w3 #[Value.int .i64 0, Value.string ⟨#[]⟩, Value.int .i64 0, Value.int .i64 (k : Int)]) := zH ((T2.out).quiet qq)
                 clear d0 d1 d2 d3 d4 d5 d6 d7 t0 t1 t2 t3
                 have t0 := T3.out.2.cell (i := 0) rfl
                 have t1 := T3.out.2.cell (i := 1) rfl
                 have t2 := T3.out.2.cell (i := 2) rfl
                 have t3 := T3.out.2.cell (i := 3) rfl
                 obtain ⟨d0, d1, d2, d3, d4, d5, d6, d7⟩ := T3.out.facts hB.out.1
                 clear qq)
              | (go_at_call 76
                 refine (RV.out _).mono ?_
                 rintro e w4 ⟨rfl, qq⟩
                 have T4 : Hid (TokSt wr w4 #[Value.int .i64 3, Value.string (txt q), Value.int .i64 0, Value.int .i64 (k : Int)]) := zH (((T3.out.set 0 (.int .i64 3)).set 1 (.string (txt q))).quiet qq)
                 clear d0 d1 d2 d3 d4 d5 d6 d7 t0 t1 t2 t3
                 have t0 := T4.out.2.cell (i := 0) rfl
                 have t1 := T4.out.2.cell (i := 1) rfl
                 have t2 := T4.out.2.cell (i := 2) rfl
                 have t3 := T4.out.2.cell (i := 3) rfl
                 obtain ⟨d0, d1, d2, d3, d4, d5, d6, d7⟩ := T4.out.facts hB.out.1
                 clear qq))
            go_region
            go_wp2_with (first
              | (at_builtin
                 go_must (refine wpList_append_list rfl (.tmp 107) (.tmp 109) _ rfl (w.heap.size + 1 + 1) _ 110 j _ 4 40 Tryd.underlying81 I.out.1 I.out.2.1 I.out.2.2.1 I.out.2.2.2 rfl (by omega) (R := Tok.Is) (l := toks) (m := [⟨((3 : Nat) : Int), q, 0, (k : Int)⟩]) (.slice oa on oc) rfl (by exact (hB.out.1.keep ((T4.out).alloc _).drew.1).2.2.1) (some ⟨w4.heap.size, 0, none⟩) 1 1 rfl (by exact SlR.drew_ (SlR.new1 (by simp [World.setCell]) rfl HT.out)) (a + 1) (by rw [hB.out.2]) Tok.Is.one (by rw [hB.out.2]; unfold maxLen; omega) (by rw [hB.out.2]; omega) (by simp [World.setCell]; omega) ?_)
                 intro xa xc w9 hown hgr
                 have ST9 : Hid (ScanSt w s k (.slice xa (a + 1) xc) (toks ++ [⟨((3 : Nat) : Int), q, 0, (k : Int)⟩]) w9) := zH ((hB.out.1.keep ((T4.out).alloc _).drew.1).grown hgr hown)
                 have e0 := ST9.out.2.1.cell (i := 0) rfl
                 have e1 := ST9.out.2.1.frozen 0
                 have e2 : w.heap.size + 1 < w9.heap.size := ST9.out.2.1.lt
                 clear hown hgr d0 d1 d2 d3 d4 d5 d6 d7 t0 t1 t2 t3))
            have ST := ST9.out.at_ (k + q.length) (u := .int .i64 ((k : Int) + (q.length : Int))) (by go_num)
            go_roundw
            case rel => exact ⟨k + q.length, f - 1, a + 1, xa, a + 1, xc, _, by omega, by omega, by omega, rfl, HV.out, ST, by simp [hB.out.2]⟩
            case measure => rw [Hat.out, ST.cell_at]; omega
          · rw [if_neg h32] at hsp
            have hv := scan_step_no hu.out (by omega) Hc.out hnb h34 hsp
            have HV := zH hv
            have h32' : decide ((q.length : Int) ≤ 32) = false := by simp; omega
            clear hv hu hdrop Hc hsp hq hby hqb hw hd0 hlet
            go_wp2_with (first
              | (go_at_call 73
                 refine (D.out _).mono ?_
                 rintro e w1 ⟨rfl, qq⟩
                 have T1 : Hid (TokSt wr w1 #[Value.int .i64 0, Value.string ⟨#[]⟩, Value.int .i64 0, Value.int .i64 (k : Int)]) := zH ((TokSt.new wr _).quiet qq)
                 have t0 := T1.out.2.cell (i := 0) rfl
                 have t1 := T1.out.2.cell (i := 1) rfl
                 have t2 := T1.out.2.cell (i := 2) rfl
                 have t3 := T1.out.2.cell (i := 3) rfl
                 obtain ⟨d0, d1, d2, d3, d4, d5, d6, d7⟩ := T1.out.facts hB.out.1
                 clear qq)
              | (go_at_call 75
                 refine (L.out _).mono ?_
                 rintro e w2 ⟨rfl, qq⟩
                 have T2 : Hid (TokSt wr w2 #[Value.int .i64 0, Value.string ⟨#[]⟩, Value.int .i64 0, Value.int .i64 (k : Int)]) := zH ((T1.out).quiet qq)
                 clear d0 d1 d2 d3 d4 d5 d6 d7 t0 t1 t2 t3
                 have t0 := T2.out.2.cell (i := 0) rfl
                 have t1 := T2.out.2.cell (i := 1) rfl
                 have t2 := T2.out.2.cell (i := 2) rfl
                 have t3 := T2.out.2.cell (i := 3) rfl
                 obtain ⟨d0, d1, d2, d3, d4, d5, d6, d7⟩ := T2.out.facts hB.out.1
                 clear qq)
              | (go_at_call 71
                 refine (RN.out _ (hB.out.1.keep T2.out.1).1 (hB.out.1.keep T2.out.1).2.1).mono ?_
                 rintro e w3 ⟨rfl, qq⟩
                 have T3 : Hid (TokSt wr w3 #[Value.int .i64 0, Value.string ⟨#[]⟩, Value.int .i64 0, Value.int .i64 (k : Int)]) := zH ((T2.out).quiet qq)
                 clear d0 d1 d2 d3 d4 d5 d6 d7 t0 t1 t2 t3
                 have t0 := T3.out.2.cell (i := 0) rfl
                 have t1 := T3.out.2.cell (i := 1) rfl
                 have t2 := T3.out.2.cell (i := 2) rfl
                 have t3 := T3.out.2.cell (i := 3) rfl
                 obtain ⟨d0, d1, d2, d3, d4, d5, d6, d7⟩ := T3.out.facts hB.out.1
                 clear qq)
              | (go_at_call 76
                 refine (RV.out _).mono ?_
                 rintro e w4 ⟨rfl, qq⟩
                 have T4 : Hid (TokSt wr w4 #[Value.int .i64 3, Value.string (txt q), Value.int .i64 0, Value.int .i64 (k : Int)]) := zH (((T3.out.set 0 (.int .i64 3)).set 1 (.string (txt q))).quiet qq)
                 clear d0 d1 d2 d3 d4 d5 d6 d7 t0 t1 t2 t3
                 have t0 := T4.out.2.cell (i := 0) rfl
                 have t1 := T4.out.2.cell (i := 1) rfl
                 have t2 := T4.out.2.cell (i := 2) rfl
                 have t3 := T4.out.2.cell (i := 3) rfl
                 obtain ⟨d0, d1, d2, d3, d4, d5, d6, d7⟩ := T4.out.facts hB.out.1
                 clear qq))
            go_region
            go_wp2_with fail
            (try simp only [Exit.inBlock, Exit.then, Exit.noGoto_ret])
            go_ret3
            exact ScanIs.no (by first | rfl | (push_cast; rfl)) (hB.out.1.keep ((T4.out).drew).1).2.2.2 (by rw [HR.out.1, HV.out])
      · have hlet' : letterN c = false := by simpa using hlet
        have L := zH (fun W => lex_letter c false hlet' W)
        have hx : bs (s.extract k s.size) = (bs s).drop k := by rw [bs_extract, List.take_of_length_le (by rw [bs_len]; exact Nat.le_refl _)]
        have hxs : (s.extract k s.size).size ≤ 4096 := by rw [← bs_len, hx, List.length_drop, Hn.out.2]; omega
        obtain ⟨Q, hQ⟩ : ∃ Q, markN ((bs s).drop k) = Q := ⟨_, rfl⟩
        have hsp : stepP ((bs s).drop k) = if Q.1 = [] then (none, Q.2) else (some (5, Q.1, 0), Q.2) := by
          rw [hdrop] at hQ ⊢
          simp only [stepP]
          rw [if_neg hdig, if_neg hlet, hQ]
        have MK : Hid (∀ W, Below w.heap.size w W → Calls Tryd.prog 77 #[.string (s.extract k s.size)] W fun e w' => e = .returned (.tuple #[.string (txt Q.1), .int .i64 (Q.2 : Int)]) ∧ Quiet W w') := zH (fun W hW => lex_mark (s.extract k s.size) c (by rw [hx, hdrop]; rfl) hxs Q (by rw [hx]; exact hQ) W (Hm.out.below hW))
        obtain ⟨q1, q2⟩ := Q
        have hq2 : q2 ≤ 2 := by
          have : ∀ m ∈ marksL, m.length ≤ 2 := by decide
          unfold markN at hQ
          split at hQ
          · rename_i m hm
            injection hQ with _ h
            rw [← h]
            exact this _ (List.mem_of_find?_eq_some hm)
          · split at hQ <;> injection hQ with _ h <;> omega
        by_cases hq1 : q1 = []
        · subst hq1
          rw [if_pos rfl] at hsp
          have hv := scan_step_no hu.out (by omega) Hc.out hnb h34 hsp
          have HV := zH hv
          have he0 : (txt []).toList = [] := by rw [ByteArray.toList_eq]; rfl
          have he1 : (!(txt []).toList.isEmpty) = false := by rw [he0]; rfl
          have he2 : (txt []).toList.isEmpty = true := by rw [he0]; rfl
          clear hv hu hdrop Hc hsp hQ hby hx hxs hd0 hlet hlet'
          go_wp2_with (first
            | (go_at_call 73
               refine (D.out _).mono ?_
               rintro e w1 ⟨rfl, qq⟩
               have T1 : Hid (TokSt wr w1 #[Value.int .i64 0, Value.string ⟨#[]⟩, Value.int .i64 0, Value.int .i64 (k : Int)]) := zH ((TokSt.new wr _).quiet qq)
               have t0 := T1.out.2.cell (i := 0) rfl
               have t1 := T1.out.2.cell (i := 1) rfl
               have t2 := T1.out.2.cell (i := 2) rfl
               have t3 := T1.out.2.cell (i := 3) rfl
               obtain ⟨d0, d1, d2, d3, d4, d5, d6, d7⟩ := T1.out.facts hB.out.1
               clear qq)
            | (go_at_call 75
               refine (L.out _).mono ?_
               rintro e w2 ⟨rfl, qq⟩
               have T2 : Hid (TokSt wr w2 #[Value.int .i64 0, Value.string ⟨#[]⟩, Value.int .i64 0, Value.int .i64 (k : Int)]) := zH ((T1.out).quiet qq)
               clear d0 d1 d2 d3 d4 d5 d6 d7 t0 t1 t2 t3
               have t0 := T2.out.2.cell (i := 0) rfl
               have t1 := T2.out.2.cell (i := 1) rfl
               have t2 := T2.out.2.cell (i := 2) rfl
               have t3 := T2.out.2.cell (i := 3) rfl
               obtain ⟨d0, d1, d2, d3, d4, d5, d6, d7⟩ := T2.out.facts hB.out.1
               clear qq)
            | (go_at_call 77
               refine (MK.out _ (hB.out.1.keep T2.out.1).2.2.2).mono ?_
               rintro e w3 ⟨rfl, qq⟩
               have T3 : Hid (TokSt wr w3 #[Value.int .i64 0, Value.string ⟨#[]⟩, Value.int .i64 0, Value.int .i64 (k : Int)]) := zH ((T2.out).quiet qq)
               clear d0 d1 d2 d3 d4 d5 d6 d7 t0 t1 t2 t3
               have t0 := T3.out.2.cell (i := 0) rfl
               have t1 := T3.out.2.cell (i := 1) rfl
               have t2 := T3.out.2.cell (i := 2) rfl
               have t3 := T3.out.2.cell (i := 3) rfl
               obtain ⟨d0, d1, d2, d3, d4, d5, d6, d7⟩ := T3.out.facts hB.out.1
               clear qq))
          go_region
          go_wp2_with fail
          (try simp only [Exit.inBlock, Exit.then, Exit.noGoto_ret])
          go_ret3
          exact ScanIs.no (by first | rfl | (push_cast; rfl)) (hB.out.1.keep (((T3.out.set 0 (.int .i64 5)).set 1 (.string (txt []))).drew).1).2.2.2 (by rw [HR.out.1, HV.out])
        · rw [if_neg hq1] at hsp
          obtain ⟨g1, g2, g3, g4, g5, g6⟩ := step_some hby hsp
          have g7 := step_len hsp
          rw [List.length_drop, Hn.out.2] at g2 g7
          replace g3 : Bytes q1 := g3
          replace g7 : q1.length ≤ n - k := g7
          have hv := scan_step hu.out (by omega) Hc.out hnb h34 hsp
          have HV := zH hv
          have HT : Hid (Tok.Is [.int .i64 5, .string (txt q1), .int .i64 0, .int .i64 (k : Int)] ⟨((5 : Nat) : Int), q1, 0, (k : Int)⟩) := zH ⟨rfl, Tok.mk_ok (k := 5) g3 (by omega) (by omega) (by omega) (by omega) (by omega)⟩
          have hne : ¬ txt q1 = txt [] := fun e => hq1 (by rw [← bs_txt g3, e]; rfl)
          have hne1 : ¬ (txt q1).toList = [] := fun e => hne ((toList_inj _ _).1 (e.trans (by rw [ByteArray.toList_eq]; rfl)))
          have hne2 : (!(txt q1).toList.isEmpty) = true := by simpa using hne1
          have hne3 : ((txt q1).toList == []) = false := by simpa using hne1
          clear hv hu hdrop Hc hsp hQ hby hx hxs hd0 hlet hlet' g3 g5 g6 hne hq1
          go_wp2_with (first
            | (go_at_call 73
               refine (D.out _).mono ?_
               rintro e w1 ⟨rfl, qq⟩
               have T1 : Hid (TokSt wr w1 #[Value.int .i64 0, Value.string ⟨#[]⟩, Value.int .i64 0, Value.int .i64 (k : Int)]) := zH ((TokSt.new wr _).quiet qq)
               have t0 := T1.out.2.cell (i := 0) rfl
               have t1 := T1.out.2.cell (i := 1) rfl
               have t2 := T1.out.2.cell (i := 2) rfl
               have t3 := T1.out.2.cell (i := 3) rfl
               obtain ⟨d0, d1, d2, d3, d4, d5, d6, d7⟩ := T1.out.facts hB.out.1
               clear qq)
            | (go_at_call 75
               refine (L.out _).mono ?_
               rintro e w2 ⟨rfl, qq⟩
               have T2 : Hid (TokSt wr w2 #[Value.int .i64 0, Value.string ⟨#[]⟩, Value.int .i64 0, Value.int .i64 (k : Int)]) := zH ((T1.out).quiet qq)
               clear d0 d1 d2 d3 d4 d5 d6 d7 t0 t1 t2 t3
               have t0 := T2.out.2.cell (i := 0) rfl
               have t1 := T2.out.2.cell (i := 1) rfl
               have t2 := T2.out.2.cell (i := 2) rfl
               have t3 := T2.out.2.cell (i := 3) rfl
               obtain ⟨d0, d1, d2, d3, d4, d5, d6, d7⟩ := T2.out.facts hB.out.1
               clear qq)
            | (go_at_call 77
               refine (MK.out _ (hB.out.1.keep T2.out.1).2.2.2).mono ?_
               rintro e w3 ⟨rfl, qq⟩
               have T3 : Hid (TokSt wr w3 #[Value.int .i64 0, Value.string ⟨#[]⟩, Value.int .i64 0, Value.int .i64 (k : Int)]) := zH ((T2.out).quiet qq)
               clear d0 d1 d2 d3 d4 d5 d6 d7 t0 t1 t2 t3
               have t0 := T3.out.2.cell (i := 0) rfl
               have t1 := T3.out.2.cell (i := 1) rfl
               have t2 := T3.out.2.cell (i := 2) rfl
               have t3 := T3.out.2.cell (i := 3) rfl
               obtain ⟨d0, d1, d2, d3, d4, d5, d6, d7⟩ := T3.out.facts hB.out.1
               clear qq))
          go_region
          go_wp2_with (first
            | (at_builtin
               go_must (refine wpList_append_list rfl (.tmp 107) (.tmp 109) _ rfl (w.heap.size + 1 + 1) _ 110 j _ 4 40 Tryd.underlying81 I.out.1 I.out.2.1 I.out.2.2.1 I.out.2.2.2 rfl (by omega) (R := Tok.Is) (l := toks) (m := [⟨((5 : Nat) : Int), q1, 0, (k : Int)⟩]) (.slice oa on oc) rfl (by exact (hB.out.1.keep (((T3.out.set 0 (.int .i64 5)).set 1 (.string (txt q1))).alloc _).drew.1).2.2.1) (some ⟨w3.heap.size, 0, none⟩) 1 1 rfl (by exact SlR.drew_ (SlR.new1 (by simp [World.setCell]) rfl HT.out)) (a + 1) (by rw [hB.out.2]) Tok.Is.one (by rw [hB.out.2]; unfold maxLen; omega) (by rw [hB.out.2]; omega) (by simp [World.setCell]; omega) ?_)
               intro xa xc w9 hown hgr
               have ST9 : Hid (ScanSt w s k (.slice xa (a + 1) xc) (toks ++ [⟨((5 : Nat) : Int), q1, 0, (k : Int)⟩]) w9) := zH ((hB.out.1.keep (((T3.out.set 0 (.int .i64 5)).set 1 (.string (txt q1))).alloc _).drew.1).grown hgr hown)
               have e0 := ST9.out.2.1.cell (i := 0) rfl
               have e1 := ST9.out.2.1.frozen 0
               have e2 : w.heap.size + 1 < w9.heap.size := ST9.out.2.1.lt
               clear hown hgr d0 d1 d2 d3 d4 d5 d6 d7 t0 t1 t2 t3))
          have ST := ST9.out.at_ (k + q2) (u := .int .i64 ((k : Int) + (q2 : Int))) (by go_num)
          go_roundw
          case rel => exact ⟨k + q2, f - 1, a + 1, xa, a + 1, xc, _, by omega, by omega, by omega, rfl, HV.out, ST, by simp [hB.out.2]⟩
          case measure => rw [Hat.out, ST.cell_at]; omega
    · have hdec : decide (k < n) = false := by simp; omega
      have hdec2 : decide ((k : Int) < (n : Int)) = false := by simp; omega
      have hv := scan_end hu.out (by rw [Hn.out.2]; omega)
      have HV := zH hv
      clear hv hu
      go_wp2_with fail
      go_ret3
      exact ⟨oa, on, oc, by rw [HR.out.1, HV.out]; rfl, by rw [HR.out.1, HV.out]; exact hB.out.1.2.2.1.mono (by omega), hB.out.1.2.2.2⟩
end Go.Proofs.YtpkggobhhieeoaaDoor
