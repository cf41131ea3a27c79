/- The program's parser: its state, trees in memory, what it asks of the next token. -/
import Derived.Test.YtlenenfgedgmhaaDoorScan
import Derived.Test.YtlenenfgedgmhaaDoorExpPlain
import Derived.Deep.QuietTactic
import Derived.BigQuiet
import Derived.StillTailTactics
namespace Go.Proofs.YtlenenfgedgmhaaDoor
set_option linter.unusedSimpArgs false
set_option linter.unusedVariables false
open Go.RowKit

/-- but for block q, what was there stays -/
structure Mv (q : Nat) (W W' : World) : Prop where
  low : Below q W W'
  high : ∀ k, q < k → k < W.heap.size → W'.heap[k]? = W.heap[k]?
theorem Mv.refl (q : Nat) (W : World) : Mv q W W := ⟨Below.refl _ _, fun _ _ _ => rfl⟩
theorem Mv.trans {q : Nat} {a b c : World} (h : Mv q a b) (k : Mv q b c) : Mv q a c :=
  ⟨h.low.trans k.low, fun j h1 h2 => (k.high j h1 (Nat.lt_of_lt_of_le h2 h.low.size)).trans (h.high j h1 h2)⟩
theorem Mv.of_below {q : Nat} {W W' : World} (hb : Below W.heap.size W W') (hq : q ≤ W.heap.size) : Mv q W W' := ⟨hb.mono hq, fun k _ h => hb.block k h⟩
theorem Mv.set (q : Nat) (W : World) (i : Nat) (u : Value) : Mv q W (W.setCell ⟨q, i, none⟩ u) :=
  ⟨(Below.refl q W).setCell (p := ⟨q, i, none⟩) (Nat.le_refl q) u, fun k h _ => Below.heap_setCell W ⟨q, i, none⟩ u k (by show k ≠ q; omega)⟩
theorem Mv.blk {q : Nat} {W W' : World} {g : Nat} {t : TypeId} {cs : Array Value} (h : Mv q W W') (hb : Blk W g t cs) (hg : q < g) : Blk W' g t cs := (h.high g hg hb.lt).trans hb

/-- the variable of the signs -/
def signsV : Array Value := (signsL.map fun x => [Value.string (txt x.1), .int .i64 (x.2.1 : Int), .int .i64 (x.2.2 : Int)]).flatten.toArray
def Signs (w : World) : Prop := w.var? Tryd.prog "topiary/expr.signs" = some signsV
theorem signs_block {w : World} (h : Signs w) : ∃ t fr, w.heap[1]? = some (.cells signsV t fr) := by
  unfold Signs World.var? at h
  rw [show Tryd.prog.globalNamed "topiary/expr.signs" = some 1 by kernel_rfl] at h
  simp only [Option.bind_some] at h
  cases hh : w.heap[1]? with
  | none => rw [hh] at h; cases h
  | some o =>
    rw [hh] at h
    cases o with
    | cells cs t fr => simp only [Option.some.injEq] at h; subst h; exact ⟨t, fr, rfl⟩
    | _ => cases h
theorem Signs.of_block {w w' : World} (h : Signs w) (hb : w'.heap[1]? = w.heap[1]?) : Signs w' := by
  unfold Signs World.var? at h ⊢
  rw [show Tryd.prog.globalNamed "topiary/expr.signs" = some 1 by kernel_rfl] at h ⊢
  simp only [Option.bind_some] at h ⊢
  rw [hb]
  exact h

/-- a token as the scanner makes them -/
def TokG (t : Tok) : Prop := (t.kind = 1 ∧ 0 ≤ t.num) ∨ t.kind = 2 ∨ t.kind = 3 ∨ (t.kind = 4 ∧ t.text ∈ wordsL) ∨ (t.kind = 5 ∧ t.text ∈ marksL)
theorem TokG.range {t : Tok} (h : TokG t) : 1 ≤ t.kind ∧ t.kind ≤ 5 := by unfold TokG at h; omega
/-- the place that is told where reading stops at a token -/
def placeAt (l : List Tok) (sz i : Nat) : Int := match l[i]? with
  | some t => t.place
  | none => (sz : Int)
/-- what is thrown -/
def thrownE (k : Int) : List PanicEntry := [{ v := .iface 55 (.agg #[.int .i64 k]), recovered := false }]
/-- the parser's state: its tokens lie below its box; the place of the next one -/
structure PSt (q : Nat) (a : Option Addr) (c sz : Nat) (l : List Tok) (i : Nat) (W : World) : Prop where
  toks : SlR W q 4 Tok.Is (.slice a l.length c) l
  box : Blk W q 59 #[.slice a l.length c, .int .i64 (i : Int), .int .i64 (sz : Int)]
  low : 1 < q
  signs : Signs W
  le : i ≤ l.length
  few : l.length ≤ 4097
  good : ∀ t ∈ l, TokG t
section
variable {q : Nat} {a : Option Addr} {c sz : Nat} {l : List Tok} {i : Nat} {W W' : World}
theorem PSt.mv {j : Nat} (h : PSt q a c sz l i W) (hm : Below q W W') (hb : Blk W' q 59 #[.slice a l.length c, .int .i64 (j : Int), .int .i64 (sz : Int)]) (hj : j ≤ l.length) : PSt q a c sz l j W' :=
  ⟨h.toks.below hm, hb, h.low, h.signs.of_block (hm.block 1 h.low), hj, h.few, h.good⟩
theorem PSt.keep (h : PSt q a c sz l i W) (hb : Below W.heap.size W W') : PSt q a c sz l i W' :=
  h.mv (hb.mono (Nat.le_of_lt h.box.lt)) (h.box.below hb h.box.lt) h.le
theorem PSt.set (h : PSt q a c sz l i W) {j : Nat} {u : Value} (hu : u = .int .i64 (j : Int)) (hj : j ≤ l.length) : PSt q a c sz l j (W.setCell ⟨q, 1, none⟩ u) := by
  subst hu
  exact h.mv (Mv.set _ _ _ _).low (h.box.set_ 1 _) hj
/-- what the walk asks of it -/
theorem PSt.facts (h : PSt q a c sz l i W) : W.cell? ⟨q, 0, none⟩ = some (.slice a l.length c) ∧ W.cell? ⟨q, 1, none⟩ = some (.int .i64 (i : Int)) ∧ W.cell? ⟨q, 2, none⟩ = some (.int .i64 (sz : Int)) ∧ W.frozen? ⟨q, 1, none⟩ = false ∧ q < W.heap.size :=
  ⟨h.box.cell rfl, h.box.cell rfl, h.box.cell rfl, h.box.frozen 1, h.box.lt⟩
/-- the token at the place -/
theorem PSt.tok (h : PSt q a c sz l i W) {k : Nat} {t : Tok} (ht : l[k]? = some t) : ∃ b off, a = some ⟨b, off, none⟩ ∧ W.cell? ⟨b, off + k * 4, none⟩ = some (.int .i64 t.kind) ∧ W.cell? ⟨b, off + k * 4 + 1, none⟩ = some (.string (txt t.text)) ∧ W.cell? ⟨b, off + k * 4 + 2, none⟩ = some (.int .i64 t.num) ∧ W.cell? ⟨b, off + k * 4 + 3, none⟩ = some (.int .i64 t.place) ∧ t.ok := by
  obtain ⟨b, off, x, ha, _, hx, ⟨rfl, hok⟩, hc⟩ := h.toks.at_ ht
  refine ⟨b, off, ha, ?_, hc 1 _ rfl, hc 2 _ rfl, hc 3 _ rfl, hok⟩
  have := hc 0 _ rfl
  rwa [Nat.add_zero] at this
end
theorem txt_inj {s t : List Nat} (hs : Bytes s) (ht : Bytes t) (h : (txt s).toList = (txt t).toList) : s = t := by
  have h1 := (toList_inj _ _).1 h
  rw [← bs_txt hs, ← bs_txt ht, h1]
/-- tokens' texts are bytes -/
theorem PSt.bytes {q : Nat} {a : Option Addr} {c sz : Nat} {l : List Tok} {i : Nat} {W : World} (h : PSt q a c sz l i W) {k : Nat} {t : Tok} (ht : l[k]? = some t) : Bytes t.text := by
  obtain ⟨_, _, _, _, _, _, _, hok⟩ := h.tok ht
  exact hok.1
set_option maxRecDepth 100000 in
set_option maxHeartbeats 4000000 in
theorem p_next {q : Nat} {a : Option Addr} {c sz : Nat} {l : List Tok} {i : Nat} {W : World} (s : List Nat) (hs : Bytes s) (b : Bool) (hb : isT l i s = b) (h : PSt q a c sz l i W) :
    Calls Tryd.prog 95 #[.pointer (some ⟨q, 0, none⟩), .string (txt s)] W fun e w' => e = .returned (.bool b) ∧ Quiet W w' := by
  obtain ⟨f0, f1, f2, f3, f4⟩ := h.facts
  obtain ⟨n, hn⟩ : ∃ n, l.length = n := ⟨_, rfl⟩
  have hle := h.le
  have hfew := h.few
  rw [hn] at f0 hle hfew
  have n63 : n ≤ 9223372036854775807 := by omega
  by_cases hlt : i < n
  · obtain ⟨t, ht⟩ := get_some hn hlt
    obtain ⟨b0, off, rfl, t0, t1, _, _, hok⟩ := h.tok ht
    have hk := (h.good t (List.mem_iff_getElem?.2 ⟨i, ht⟩)).range
    have hB : b = (decide (4 ≤ t.kind) && decide (t.text = s)) := by rw [← hb]; unfold isT; rw [ht]
    obtain ⟨kd, hkd⟩ : ∃ k, t.kind = k := ⟨_, rfl⟩
    obtain ⟨tt, htt⟩ : ∃ k, t.text = k := ⟨_, rfl⟩
    have htb := hok.1
    rw [hkd] at t0 hk hB
    rw [htt] at t1 hB htb
    have HB := Lib.hid hB
    clear h hb hn ht hkd htt hok hB
    have dlt : decide (i < n) = true := by simpa using hlt
    by_cases hts : tt = s
    · subst hts
      by_cases h5 : kd = 5
      · subst h5
        have Hk := Lib.hid hk
        clear hk
        go_enter Tryd.func95, Tryd.ntmps95
        go_wp2_with fail
        go_quiet (fail)
        go_wp2_with fail
        go_ret
        exact ⟨by rw [HB.out]; simp, ⟨_, rfl⟩⟩
      · have e5 : (kd == 5) = false := by simpa using h5
        by_cases h4 : kd = 4
        · subst h4
          have Hk := Lib.hid hk
          clear hk h5
          go_enter Tryd.func95, Tryd.ntmps95
          go_wp2_with fail
          go_quiet (fail)
          go_wp2_with fail
          go_ret
          exact ⟨by rw [HB.out]; simp, ⟨_, rfl⟩⟩
        · have e4 : (kd == 4) = false := by simpa using h4
          have h3 : decide (4 ≤ kd) = false := by simp; omega
          have Hk := Lib.hid hk
          rw [h3] at HB
          clear hk h3
          go_enter Tryd.func95, Tryd.ntmps95
          go_wp2_with fail
          go_quiet (fail)
          go_wp2_with fail
          go_ret
          exact ⟨by rw [HB.out]; simp, ⟨_, rfl⟩⟩
    · have hne : ¬ (txt tt).toList = (txt s).toList := fun e => hts (txt_inj htb hs e)
      have hd : decide (tt = s) = false := by simpa using hts
      rw [hd, Bool.and_false] at HB
      clear hts hd htb hs
      by_cases h5 : kd = 5
      · subst h5
        have Hk := Lib.hid hk
        clear hk
        go_enter Tryd.func95, Tryd.ntmps95
        go_wp2_with fail
        go_quiet (fail)
        go_wp2_with fail
        go_ret
        exact ⟨by rw [HB.out]; try simp [hne], ⟨_, rfl⟩⟩
      · have e5 : (kd == 5) = false := by simpa using h5
        by_cases h4 : kd = 4
        · subst h4
          have Hk := Lib.hid hk
          clear hk h5
          go_enter Tryd.func95, Tryd.ntmps95
          go_wp2_with fail
          go_quiet (fail)
          go_wp2_with fail
          go_ret
          exact ⟨by rw [HB.out]; try simp [hne], ⟨_, rfl⟩⟩
        · have e4 : (kd == 4) = false := by simpa using h4
          have Hk := Lib.hid hk
          clear hk
          go_enter Tryd.func95, Tryd.ntmps95
          go_wp2_with fail
          go_quiet (fail)
          go_wp2_with fail
          go_ret
          exact ⟨by have hb := HB.out; subst hb; rfl, ⟨_, rfl⟩⟩
  · have hB : b = false := by rw [← hb]; unfold isT; rw [List.getElem?_eq_none (by omega)]
    obtain rfl : i = n := by omega
    have dlt : decide (i < i) = false := by simp
    have HB := Lib.hid hB
    clear h hb hn hB hlt
    go_enter Tryd.func95, Tryd.ntmps95
    go_wp2_with fail
    go_quiet (fail)
    go_wp2_with fail
    go_ret
    exact ⟨by have hb := HB.out; subst hb; rfl, ⟨_, rfl⟩⟩
end Go.Proofs.YtlenenfgedgmhaaDoor
