/- modules: the web and its row. -/
import Derived.Test.YtikplcpghohklaaGreatMSteps
namespace Go.Proofs.YtikplcpghohklaaGreat
set_option linter.unusedSimpArgs false
set_option linter.unusedVariables false
open Go.RowKit

/-- what 'order' leaves behind: the web -/
structure OrdOut (w : World) (v : Value) (ls : List Language) (W : World) : Prop where
  low : Below w.heap.size w W
  wb : Blk W (w.heap.size + 3) 79 #[v, .map (some (w.heap.size + 1)), .map (some (w.heap.size + 2))]
  m1 : AtM W (w.heap.size + 1) ls.length ls
  u1 : ∃ B un, w.heap.size + 5 < B ∧ un ≤ 1024 ∧ UseM W B (w.heap.size + 2) un (fun j => ((webN ls)[j]?).getD [])
theorem StepI.out {w W : World} {v : Value} {ls : List Language} (h : StepI w v ls 4 W) : OrdOut w v ls W := ⟨h.low, h.wb, h.m1 (by omega), h.u1 (by omega)⟩
theorem OrdOut.kept {w W W' : World} {v : Value} {ls : List Language} {row : Option Nat} (h : OrdOut w v ls W) (hg : W.grownBy W' row) (hr : ∀ j, row = some j → j = w.heap.size) : OrdOut w v ls W' := by
  have hne : ∀ q, q ≠ w.heap.size → some q ≠ row := fun q hq e => hq (hr q e.symm)
  obtain ⟨B, un, h1, h2, h3⟩ := h.u1
  exact ⟨h.low.grown hg h.low.size (fun j hj => by rw [hr j hj]; exact Nat.le_refl _), h.wb.grown hg (hne _ (by omega)), h.m1.kept hg (hne _ (by omega)), ⟨B, un, h1, h2, h3.kept hg (hne _ (by omega)) (fun j hj => by rw [hr j hj]; omega)⟩⟩
theorem OrdOut.set {w W : World} {v : Value} {ls : List Language} (h : OrdOut w v ls W) (j : Nat) (u : Value) : OrdOut w v ls (W.setCell ⟨w.heap.size, j, none⟩ u) := h.kept (set_grown W _ u) (fun q hq => by injection hq with hq; exact hq.symm)
theorem OrdOut.below {w W W' : World} {v : Value} {ls : List Language} (h : OrdOut w v ls W) (b : Below W.heap.size W W') : OrdOut w v ls W' := h.kept (grown_of_below none b) (fun j hj => by cases hj)
theorem OrdOut.uses {w W : World} {v : Value} {ls : List Language} (h : OrdOut w v ls W) (hle : ls.length ≤ 128) : UsesAt W (w.heap.size + 2) (webN ls) := by
  obtain ⟨B, un, h1, h2, h3⟩ := h.u1
  exact h3.usesAt (by unfold maxLen; omega) (by rw [webN_len]; exact hle)
/-- how 'order' answers in modules -/
def MOrdPost (ls : List Language) (v : Value) (w : World) (e : Ending) (w' : World) : Prop :=
  (match faultN ls with
    | some f => e = .returned (.tuple #[.pointer none, .slice none 0 0, fltR f])
    | none => (∃ (a : Option Addr) (c : Nat), e = .returned (.tuple #[.pointer (some ⟨w.heap.size + 3, 0, none⟩), .slice a ls.length c, fltV 0 0 0 0]) ∧ Own1 w' (w.heap.size + 5) 3 1 IsInt (.slice a ls.length c) ((rowN (webN ls)).map fun (n : Nat) => (n : Int))) ∧ OrdOut w v ls w') ∧ Below w.heap.size w w'

/-- is a number not in a row? the closures of order and Close -/
theorem m_clos {row : List Int} {v : Value} (d : Int) (tb : Nat) (W W0 : World) (hs : SlR W0 W0.heap.size 1 IsInt v row) (hW : Below W0.heap.size W0 W) (hc : W.cell? ⟨tb, 0, none⟩ = some v) :
    Calls Tryz.prog 63 #[.int .i64 d, .pointer (some ⟨tb, 0, none⟩)] W fun e W' => e = .returned (.bool (!(row.any fun x => decide (x = d)))) ∧ Quiet W W' := by
  have HC := Lib.hid (contains_int d W W0 hs hW)
  clear hs hW
  go_enter Tryz.func63, Tryz.ntmps63
  go_wp2_with (go_at_call 35; (with_reducible refine HC.out.mono ?_); rintro ec wc ⟨rfl, qc⟩)
  go_ret
  exact ⟨rfl, qc⟩
theorem m_clos2 {row : List Int} {v : Value} (d : Int) (tb : Nat) (W W0 : World) (hs : SlR W0 W0.heap.size 1 IsInt v row) (hW : Below W0.heap.size W0 W) (hc : W.cell? ⟨tb, 0, none⟩ = some v) :
    Calls Tryz.prog 34 #[.int .i64 d, .pointer (some ⟨tb, 0, none⟩)] W fun e W' => e = .returned (.bool (!(row.any fun x => decide (x = d)))) ∧ Quiet W W' := by
  have HC := Lib.hid (contains_int d W W0 hs hW)
  clear hs hW
  go_enter Tryz.func34, Tryz.ntmps34
  go_wp2_with (go_at_call 35; (with_reducible refine HC.out.mono ?_); rintro ec wc ⟨rfl, qc⟩)
  go_ret
  exact ⟨rfl, qc⟩
theorem m_notall {row l : List Int} {v v' : Value} (tb : Nat) (W W0 : World) (hs : SlR W0 W0.heap.size 1 IsInt v row) (hl : SlR W0 W0.heap.size 1 IsInt v' l) (hW : Below W0.heap.size W0 W) (hc : W.cell? ⟨tb, 0, none⟩ = some v) :
    Calls Tryz.prog 62 #[v', .func (.func 63) #[] #[.pointer (some ⟨tb, 0, none⟩)]] W fun e W' => e = .returned (.bool (l.any fun d => !(row.any fun x => decide (x = d)))) ∧ Quiet W W' := by
  have hcap := hl.form
  refine (anyInt_st 63 #[.pointer (some ⟨tb, 0, none⟩)] W W0.heap.size
    (fun k W2 => Quiet W W2 ∧ ∀ (i : Nat) (d : Int), i < k → l[i]? = some d → (row.any fun x => decide (x = d)) = true)
    (fun W2 => Quiet W W2 ∧ (l.any fun d => !(row.any fun x => decide (x = d))) = true) (by obtain ⟨a, c, h, _⟩ := hcap; exact ⟨a, c, h⟩) (by obtain ⟨a, c, _, h1, h2⟩ := hcap; unfold maxLen at h2; omega)
    (fun k W2 h => hl.below (hW.trans ((h.1.below _).mono hW.size))) (fun args w => by go_simp) ?_ ⟨Quiet.refl _, fun i d hi => by omega⟩).mono ?_
  · rintro k y W2 hy ⟨q, hf⟩
    have hc2 : W2.cell? ⟨tb, 0, none⟩ = some v := by obtain ⟨n, rfl⟩ := q; exact hc
    refine (m_clos y tb W2 W0 hs (hW.trans ((q.below _).mono hW.size)) hc2).mono ?_
    rintro e W3 ⟨rfl, q3⟩
    cases h : (row.any fun x => decide (x = y)) with
    | true => exact .inl ⟨rfl, q.trans q3, so_far1 (p := fun d => row.any fun x => decide (x = d)) hy h hf⟩
    | false => exact .inr ⟨rfl, q.trans q3, List.any_eq_true.2 ⟨y, List.mem_iff_getElem?.2 ⟨k, hy⟩, by rw [h]; rfl⟩⟩
  · rintro e W2 (⟨rfl, q, h⟩ | ⟨rfl, q, h⟩)
    · refine ⟨?_, q⟩
      have : (l.any fun d => !(row.any fun x => decide (x = d))) = false := by
        rw [List.any_eq_false]
        intro d hd
        obtain ⟨i, hi⟩ := List.mem_iff_getElem?.1 hd
        rw [h i d (List.getElem?_eq_some_iff.1 hi).1 hi]
        simp
      rw [this]
    · exact ⟨by rw [h], q⟩
/-- how long the row is that lies in a variable -/
def rowLen (W : World) (tb : Nat) : Nat := match W.cell? ⟨tb, 0, none⟩ with
  | some (.slice _ l _) => l
  | _ => 0
theorem readyN_any {us : Web} {row u : List Nat} {k : Nat} (hu : us[k]? = some u) : (!(((u.map fun (n : Nat) => (n : Int)).any fun d => !((row.map fun (n : Nat) => (n : Int)).any fun x => decide (x = d))))) = readyN us row k := by
  unfold readyN
  rw [hu]
  simp only
  rw [Bool.eq_iff_iff, Bool.not_eq_true', List.any_eq_false, List.all_eq_true]
  constructor
  · intro h x hx
    have := h (x : Int) (List.mem_map.2 ⟨x, hx, rfl⟩)
    simp only [Bool.not_eq_true', Bool.not_eq_false, List.any_eq_true, decide_eq_true_eq] at this
    obtain ⟨y, hy, e⟩ := this
    rw [e] at hy
    simpa using map_mem.1 hy
  · intro h d hd
    obtain ⟨x, hx, rfl⟩ := List.mem_map.1 hd
    simp only [Bool.not_eq_true', Bool.not_eq_false, List.any_eq_true, decide_eq_true_eq]
    exact ⟨(x : Int), map_mem.2 (by simpa using h x hx), rfl⟩
theorem any_in {row : List Nat} {k : Nat} : ((row.map fun (n : Nat) => (n : Int)).any fun x => decide (x = (k : Int))) = decide (k ∈ row) := by
  rw [Bool.eq_iff_iff, List.any_eq_true, decide_eq_true_eq]
  constructor
  · rintro ⟨x, hx, e⟩
    simp only [decide_eq_true_eq] at e
    subst e
    exact map_mem.1 hx
  · intro h
    exact ⟨_, map_mem.2 h, by simp⟩

theorem ring_ok {ls : List Language} (h : faultN ls = none) : firstF (ringF ls) 0 ls = none := by
  unfold faultN at h
  split at h
  · cases h
  · split at h
    · cases h
    · split at h
      · cases h
      · split at h
        · cases h
        · exact h
set_option maxRecDepth 100000 in
set_option maxHeartbeats 8000000 in
theorem m_order {ls : List Language} {v : Value} (w w0 : World) (hs : LsR w0 w0.heap.size v ls) (hw : Below w0.heap.size w0 w) :
    Calls Tryz.prog 31 #[v] w (MOrdPost ls v w) := by
  obtain ⟨jI, hi, hz, hszI, hby⟩ := info_parts info_i
  have I := Lib.hid (And.intro hi (And.intro hz (And.intro hszI hby)))
  clear hi hz hszI hby
  obtain ⟨a, c, rfl⟩ : ∃ a c, v = .slice a ls.length c := by obtain ⟨a, c, h, _⟩ := hs.form; exact ⟨a, c, h⟩
  have hcap := hs.caps
  have hn63 : ls.length ≤ 9223372036854775807 := by unfold maxLen at hcap; omega
  have HFS := Lib.hid (fun W (h5 : W.heap.size = w.heap.size + 5) (hI : StepI w (.slice a ls.length c) ls 0 W) => first_steps w w0 W hs hw h5 hI)
  have I0 : Hid (StepI w (.slice a ls.length c) ls 0 (((((w.alloc (.cells Z4 28)).alloc (.map #[] 0)).alloc (.map #[] 0)).alloc (.cells #[.slice a ls.length c, .map (some (w.heap.size + 1)), .map (some (w.heap.size + 2))] 79)).alloc (.cells (stepFs.map fun g => stepV g (w.heap.size + 3)).toArray 139))) := by
    have b1 : Below w.heap.size w (w.alloc (.cells Z4 28)) := (Below.refl _ _).alloc (Nat.le_refl _) _
    have m1 := (World.ownsMap_made (H := Unit) (w.alloc (.cells Z4 28)) Tryz.prog 9 (plainElem (H := Unit) Tryz.prog 3)).alloc (.map #[] 0)
    have m2 := World.ownsGroups_made (H := Unit) ((w.alloc (.cells Z4 28)).alloc (.map #[] 0)) Tryz.prog 3 3 .i64
    simp only [World.size_alloc] at m1 m2
    have hb : Below w.heap.size w (((((w.alloc (.cells Z4 28)).alloc (.map #[] 0)).alloc (.map #[] 0)).alloc (.cells #[.slice a ls.length c, .map (some (w.heap.size + 1)), .map (some (w.heap.size + 2))] 79)).alloc (.cells (stepFs.map fun g => stepV g (w.heap.size + 3)).toArray 139)) := (((b1.alloc (by simp) _).alloc (by simp; omega) _).alloc (by simp; omega) _).alloc (by simp; omega) _
    refine ⟨hb, ((((Blk.new w _ _).alloc _).alloc _).alloc _).alloc _, (Blk.new_ (by simp) _ _).alloc _, Blk.new_ (by simp) _ _, fun _ => (m1.alloc _).alloc _, fun h => by omega, fun _ => ⟨w.heap.size + 3, ?_⟩, fun h => by omega, fun h => by omega, fun h => by omega⟩
    have g1 := m2.kept (World.grownBy_alloc _ (.cells #[.slice a ls.length c, .map (some (w.heap.size + 1)), .map (some (w.heap.size + 2))] 79) none) (by simp) (m2.rowsAbove (fun j h => by cases h))
    exact g1.kept (World.grownBy_alloc _ (.cells (stepFs.map fun g => stepV g (w.heap.size + 3)).toArray 139) none) (by simp) (g1.rowsAbove (fun j h => by cases h))
  have Hw := Lib.hid hw
  clear hs hw hcap
  have hmm := @run_makeMap Tryz.prog
  cases hf : faultN ls with
  | some f =>
    obtain ⟨fl, fa, fp, fe⟩ := f
    have hfe := fault_err hf
    have Hfe := Lib.hid hf
    have ne1 : ¬ (fe : Int) = 0 := by simp only at hfe; omega
    have ne2 : ((fe : Int) != 0) = true := by simpa using ne1
    have HC : Hid (∀ W, W.heap.size = w.heap.size + 5 → StepI w (.slice a ls.length c) ls 0 W → Calls Tryz.prog 57 #[.slice (some ⟨w.heap.size + 4, 0, none⟩) 4 4] W fun e w' => e = .returned (.agg #[.int .i64 (fl : Int), .int .i64 (fa : Int), .int .i64 (fp : Int), .int .i64 (fe : Int)]) ∧ StepJ w w') :=
      Lib.hid fun W h5 hI => (HFS.out W h5 hI).mono fun e w' h => by rw [hf] at h; exact ⟨h.1, h.2.2 (by simp)⟩
    clear hf hfe HFS
    go_enter Tryz.func31, Tryz.ntmps31
    go_wp2_with (go_at_call 57; refine (HC.out _ (by simp) I0.out).mono ?_; rintro en w1 ⟨rfl, hJ⟩; have K1 := Lib.hid hJ; clear hJ)
    generalize hW2 : World.alloc w1 _ = W2
    have C2 : Hid (StepJ w W2) := Lib.hid (by rw [← hW2]; exact K1.out.kept (World.grownBy_alloc w1 _ none) (fun j hj => by cases hj))
    have B2 : Blk W2 w1.heap.size 28 #[.int .i64 (fl : Int), .int .i64 (fa : Int), .int .i64 (fp : Int), .int .i64 (fe : Int)] := by rw [← hW2]; exact Blk.new w1 _ _
    clear hW2
    have z0 : W2.cell? ⟨w.heap.size, 0, none⟩ = some (.int .i64 0) := C2.out.2.1.cell rfl; have z1 : W2.cell? ⟨w.heap.size, 1, none⟩ = some (.int .i64 0) := C2.out.2.1.cell rfl; have z2 : W2.cell? ⟨w.heap.size, 2, none⟩ = some (.int .i64 0) := C2.out.2.1.cell rfl; have z3 : W2.cell? ⟨w.heap.size, 3, none⟩ = some (.int .i64 0) := C2.out.2.1.cell rfl; have f0 := C2.out.2.1.frozen 0; have f1 := C2.out.2.1.frozen 1; have f2 := C2.out.2.1.frozen 2; have f3 := C2.out.2.1.frozen 3
    have y0 : W2.cell? ⟨w1.heap.size, 0, none⟩ = some (.int .i64 (fl : Int)) := B2.cell rfl
    have y1 : W2.cell? ⟨w1.heap.size, 1, none⟩ = some (.int .i64 (fa : Int)) := B2.cell rfl
    have y2 : W2.cell? ⟨w1.heap.size, 2, none⟩ = some (.int .i64 (fp : Int)) := B2.cell rfl
    have y3 : W2.cell? ⟨w1.heap.size, 3, none⟩ = some (.int .i64 (fe : Int)) := B2.cell rfl
    have lw : w.heap.size < w1.heap.size := by have := K1.out.2.2; omega
    clear B2
    go_wp2_with fail
    go_still_tail 3, mixed
    change wpList _ _ _ _ _ W2.drew
    go_wp2_with fail
    refine bodyPost_ret (v := .tuple #[.pointer none, .slice none 0 0, .agg #[.int .i64 (fl : Int), .int .i64 (fa : Int), .int .i64 (fp : Int), .int .i64 (fe : Int)]]) (by simp [results, Tryz.results31, go_sem, z0, z1, z2, z3]) rfl ?_
    unfold MOrdPost
    rw [Hfe.out]
    exact ⟨rfl, ((((C2.out.1.drew.setCell (p := ⟨w.heap.size, 0, none⟩) (Nat.le_refl _) _).setCell (p := ⟨w.heap.size, 1, none⟩) (Nat.le_refl _) _).setCell (p := ⟨w.heap.size, 2, none⟩) (Nat.le_refl _) _).setCell (p := ⟨w.heap.size, 3, none⟩) (Nat.le_refl _) _)⟩
  | none =>
    have HC : Hid (∀ W, W.heap.size = w.heap.size + 5 → StepI w (.slice a ls.length c) ls 0 W → Calls Tryz.prog 57 #[.slice (some ⟨w.heap.size + 4, 0, none⟩) 4 4] W fun e w' => e = .returned (.agg #[.int .i64 0, .int .i64 0, .int .i64 0, .int .i64 0]) ∧ StepI w (.slice a ls.length c) ls 4 w') :=
      Lib.hid fun W h5 hI => (HFS.out W h5 hI).mono fun e w' h => by rw [hf] at h; exact ⟨h.1, h.2.1 rfl⟩
    have Hfn := Lib.hid hf
    have Hle := Lib.hid (found_ok hf).2
    have Hul := Lib.hid (webN_len ls)
    have Hin := Lib.hid (by have h := webN_in ls (found_ok hf).1; rw [← webN_len ls] at h; exact h)
    have Hac := Lib.hid (acyc_of (ring_ok hf))
    clear hf HFS
    go_enter Tryz.func31, Tryz.ntmps31
    go_wp2_with (go_at_call 57; refine (HC.out _ (by simp) I0.out).mono ?_; rintro en w1 ⟨rfl, hI⟩; have K1 := Lib.hid hI; clear hI)
    generalize hWF : World.alloc w1 _ = wF
    have KF : Hid (StepI w (.slice a ls.length c) ls 4 wF) := Lib.hid (by rw [← hWF]; exact K1.out.kept (World.grownBy_alloc w1 _ none) (fun j hj => by cases hj))
    have hsF : wF.heap.size = w1.heap.size + 1 := by rw [← hWF]; simp
    have hbg : w.heap.size + 5 < w1.heap.size + 1 := by have := K1.out.sb.lt; omega
    clear hWF K1 HC I0
    generalize w1.heap.size + 1 = tb at *
    have HTB := Lib.hid hsF
    clear hsF
    have B0 : Hid (Blk (wF.alloc (.cells #[.slice none 0 0] 25)) tb 25 #[.slice none 0 0]) := Lib.hid (Blk.new_ HTB.out.symm _ _)
    have L0 : Hid (Below tb wF (wF.alloc (.cells #[.slice none 0 0] 25))) := Lib.hid ((Below.refl _ _).alloc (by rw [HTB.out]; exact Nat.le_refl _) _)
    have HU : Hid (UsesAt wF (w.heap.size + 1 + 1) (webN ls)) := Lib.hid (KF.out.out.uses Hle.out)
    obtain ⟨n, hn⟩ : ∃ n, ls.length = n := ⟨_, rfl⟩
    rw [hn] at KF hn63 Hul Hle ⊢
    have Hn := Lib.hid hn
    have hle := Hle.out
    clear hn
    go_loopw [8, 9] (fun _ _ wr => ∃ (row : List Nat) (rl : Nat) (ra : Option Addr) (rc : Nat), rl ≤ n ∧ Hid (row.length = rl) ∧ Hid (Blk wr tb 25 #[.slice ra rl rc]) ∧ Hid (Own1 wr (tb + 1) 3 1 IsInt (.slice ra rl rc) (row.map fun (n : Nat) => (n : Int))) ∧ Hid (Below tb wF wr) ∧ Hid (rowR (webN ls) (n - rl) row = rowN (webN ls))) (fun _ _ wr => n - rowLen wr tb)
    case atStart => exact ⟨[], 0, none, 0, Nat.zero_le _, Lib.hid rfl, B0, Lib.hid ⟨[], World.ownsRow_nil _ _ _ _, FlatR.nil_⟩, L0, Lib.hid (by unfold rowN; rw [Hul.out, Nat.sub_zero])⟩
    case round =>
      obtain ⟨row, rl, ra, rc, hrl, hlen, hB, hO, hL, hR⟩ := hrel
      have r7 : wr.cell? ⟨tb, 0, none⟩ = some (.slice ra rl rc) := hB.out.cell rfl
      have Hlen := hlen
      have HB := hB
      have HO := hO
      have HL := hL
      have HR := hR
      clear hlen hB hO hL hR
      by_cases hlt : rl < n
      · have d1 : decide ((rl : Int) < (n : Int)) = true := by simp; omega
        have Hex : Hid (∃ m, nextN (webN ls) row = some m) := Lib.hid (nextN_some Hac.out Hin.out (by rw [Hlen.out, Hul.out]; exact hlt))
        go_wp2_with fail
        obtain ⟨wo, hwo⟩ : ∃ wo, wo = wr := ⟨wr, rfl⟩
        subst hwo
        go_hide hQ2
        go_loopw [8, 9, 36] (fun _ _ j wr => ∃ k : Nat, k ≤ n ∧ j = .int .i64 (k : Int) ∧ Hid (Quiet wo wr) ∧ Hid (∀ q, q < k → readyN (webN ls) row q = false ∨ q ∈ row)) (fun _ _ j _ => n - (intOf j).toNat)
        case atStart => exact ⟨0, Nat.zero_le _, rfl, Lib.hid (Quiet.refl _), Lib.hid (fun q hq => by omega)⟩
        case round =>
          obtain ⟨k, hk, rfl, hq, hno⟩ := hrel
          have Hq := hq
          have Hno := hno
          clear hq hno
          by_cases hkn : k < n
          · obtain ⟨u, huu⟩ := get_some Hul.out hkn
            obtain ⟨va, vc, hrun, hsu⟩ := HU.out k u huu
            have hWr : Below wF.heap.size wF wr := by rw [HTB.out]; exact HL.out.trans ((Hq.out.below _).mono (Nat.le_of_lt HB.out.lt))
            have hl1 := hrun wr hWr
            have rw2 : wr.cell? ⟨w.heap.size + 1 + 1 + 1, 2, none⟩ = some (.map (some (w.heap.size + 1 + 1))) := (hWr.cell (p := ⟨w.heap.size + 1 + 1 + 1, 2, none⟩) KF.out.wb.lt).trans (KF.out.wb.cell (i := 2) rfl)
            have r8 : wr.cell? ⟨tb, 0, none⟩ = some (.slice ra rl rc) := by obtain ⟨m, hm⟩ := Hq.out; rw [hm]; exact r7
            have hso : SlR wr wr.heap.size 1 IsInt (.slice ra rl rc) (row.map fun (n : Nat) => (n : Int)) := (HO.out.below (Hq.out.below _) (Nat.le_refl _)).read (by omega)
            have HN := Lib.hid (m_notall tb wr wr hso ((hsu.below hWr).more hWr.size) (Below.refl _ _) r8)
            have HCt := Lib.hid (fun W (hW : Below wr.heap.size wr W) => contains_int (k : Int) W wr hso hW)
            have hra := readyN_any (row := row) huu
            obtain ⟨ul, hul⟩ : ∃ z, u.length = z := ⟨_, rfl⟩
            rw [hul] at hl1 HN
            cases hrd : readyN (webN ls) row k with
            | false =>
              rw [hrd, Bool.not_eq_false'] at hra
              rw [hra] at HN
              have HNo2 : Hid (∀ q, q < k + 1 → readyN (webN ls) row q = false ∨ q ∈ row) := Lib.hid (fun q hq => by
                rcases Nat.lt_or_ge q k with h | h
                · exact Hno.out q h
                · obtain rfl : q = k := by omega
                  exact .inl hrd)
              clear hrd hra hrun hsu huu hso HCt hWr hul
              go_wp2_with (go_at_call 62; (with_reducible refine HN.out.mono ?_); rintro en w2 ⟨rfl, q2⟩; have Q2 : Hid (Quiet wo w2) := Lib.hid (Hq.out.trans q2); clear q2)
              go_roundw
              case rel => exact ⟨k + 1, by omega, by go_num, Q2, HNo2⟩
              case measure => simp [intOf]; omega
            | true =>
              have Hrd := Lib.hid hrd
              rw [hrd, Bool.not_eq_true'] at hra
              rw [hra] at HN
              by_cases hkr : k ∈ row
              · have hct : ((row.map fun (n : Nat) => (n : Int)).any fun x => decide (x = (k : Int))) = true := by rw [any_in]; simpa using hkr
                rw [hct] at HCt
                have HNo2 : Hid (∀ q, q < k + 1 → readyN (webN ls) row q = false ∨ q ∈ row) := Lib.hid (fun q hq => by
                  rcases Nat.lt_or_ge q k with h | h
                  · exact Hno.out q h
                  · obtain rfl : q = k := by omega
                    exact .inr hkr)
                clear hrd hra hrun hsu huu hso hWr hct hkr hul
                go_wp2_with (first
                  | (go_at_call 62; (with_reducible refine HN.out.mono ?_); rintro en w2 ⟨rfl, q2⟩; have r9 : w2.cell? ⟨tb, 0, none⟩ = some (.slice ra rl rc) := (by obtain ⟨m, hm⟩ := q2; rw [hm]; exact r8); have Q2 := Lib.hid q2; clear q2)
                  | (go_at_call 35; (with_reducible refine (HCt.out _ (Q2.out.below _)).mono ?_); rintro ec w3 ⟨rfl, q3⟩; have Q3 : Hid (Quiet wo w3) := Lib.hid (Hq.out.trans (Q2.out.trans q3)); clear q3))
                go_roundw
                case rel => exact ⟨k + 1, by omega, by go_num, Q3, HNo2⟩
                case measure => simp [intOf]; omega
              · have hct : ((row.map fun (n : Nat) => (n : Int)).any fun x => decide (x = (k : Int))) = false := by rw [any_in]; simpa using hkr
                rw [hct] at HCt
                have hnx : nextN (webN ls) row = some k := nextN_is hrd hkr Hno.out
                have HR2 : Hid (rowR (webN ls) (n - (rl + 1)) (row ++ [k]) = rowN (webN ls)) := Lib.hid (by
                  have h := HR.out
                  rw [show n - rl = (n - (rl + 1)) + 1 by omega, rowR_step hnx] at h
                  exact h)
                have HO2 := Lib.hid (fun W (q : Quiet wr W) => (HO.out.below ((Hq.out.trans q).below _) (Nat.le_refl _)))
                have HB2 := Lib.hid (fun W (q : Quiet wr W) => HB.out.below ((Hq.out.trans q).below _) HB.out.lt)
                have HL2 := Lib.hid (fun W (q : Quiet wr W) => HL.out.trans (((Hq.out.trans q).below wo.heap.size).mono (Nat.le_of_lt HB.out.lt)))
                have HLm : Hid ((row.map fun (n : Nat) => (n : Int)).length = rl) := Lib.hid (by rw [List.length_map]; exact Hlen.out)
                have Hwf : Hid ((Lit.int .i64 (k : Int)).wf = true) := Lib.hid (nat_wf (by omega))
                have APP := True.intro
                clear hrd hra hrun hsu huu hso hWr hct hkr hnx hul
                subst hQ2
                go_wp2_with (first
                  | (go_at_call 62; (with_reducible refine HN.out.mono ?_); rintro en w2 ⟨rfl, q2⟩; have r9 : w2.cell? ⟨tb, 0, none⟩ = some (.slice ra rl rc) := (by obtain ⟨m, hm⟩ := q2; rw [hm]; exact r8); have Q2 := Lib.hid q2; clear q2)
                  | (go_at_call 35; (with_reducible refine (HCt.out _ (Q2.out.below _)).mono ?_); rintro ec w3 ⟨rfl, q3⟩; have r10 : w3.cell? ⟨tb, 0, none⟩ = some (.slice ra rl rc) := (by obtain ⟨m, hm⟩ := q3; rw [hm]; exact r9); have Q3 : Hid (Quiet wr w3) := Lib.hid (Q2.out.trans q3); have B3 := Lib.hid (HB2.out _ Q3.out); have O3 := Lib.hid (HO2.out _ Q3.out); have L3 := Lib.hid (HL2.out _ Q3.out); have l3 := B3.out.lt; clear q3)
                  | (at_builtin
                     have _t := APP
                     go_must (refine wpList_append_list rfl (.tmp 55) (.tmp 57) _ rfl (tb + 1) _ 3 jI _ 1 8 Tryz.underlying25 I.out.1 I.out.2.1 I.out.2.2.1 I.out.2.2.2 rfl (by omega) (R := IsInt) (l := row.map fun (n : Nat) => (n : Int)) (m := [(k : Int)]) (.slice ra rl rc) rfl (by exact O3.out.alloc _) (some ⟨w3.heap.size, 0, none⟩) 1 1 rfl (by exact SlR.new1 rfl rfl ⟨rfl, Hwf.out⟩) (rl + 1) (by rw [HLm.out]) IsInt.one (by rw [HLm.out]; unfold maxLen; omega) (by rw [HLm.out]; omega) (by simp; omega) ?_)
                     intro xa xc w9 hown hgr
                     have hne : ∀ g, (Value.slice ra rl rc).ownBlock = some g → tb + 1 ≤ g := fun g hg => (O3.out.block g hg).1
                     have B9 : Hid (Blk w9 tb 25 #[.slice ra rl rc]) := Lib.hid ((B3.out.alloc _).grown hgr (fun e => by have := hne _ e.symm; omega))
                     have r11 : w9.cell? ⟨tb, 0, none⟩ = some (.slice ra rl rc) := B9.out.cell rfl
                     have f11 := B9.out.frozen 0
                     have O9 : Hid (Own1 w9 (tb + 1) 3 1 IsInt (.slice xa (rl + 1) xc) ((row ++ [k]).map fun (n : Nat) => (n : Int))) := Lib.hid (by rw [List.map_append]; exact hown)
                     have L9 : Hid (Below tb wF w9) := Lib.hid ((L3.out.alloc (by omega) _).grown hgr (by simp; omega) (fun g hg => by have := hne g hg; omega))
                     clear hown hgr hne _t APP))
                go_roundw
                case rel => exact ⟨row ++ [k], rl + 1, xa, xc, by omega, Lib.hid (by rw [List.length_append, Hlen.out]; rfl), Lib.hid (B9.out.set_ 0 _), Lib.hid (O9.out.setFar (by show tb < tb + 1; omega) _), Lib.hid (L9.out.setCell (by exact Nat.le_refl _) _), HR2⟩
                case measure =>
                  have h1 : rowLen wo tb = rl := by unfold rowLen; rw [r7]
                  have h2 : rowLen (w9.setCell ⟨tb, 0, none⟩ (.slice xa (rl + 1) xc)) tb = rl + 1 := by unfold rowLen; rw [(B9.out.set_ 0 (.slice xa (rl + 1) xc)).cell (i := 0) (u := .slice xa (rl + 1) xc) rfl]
                  rw [h1, h2]
                  omega
          · exfalso
            obtain ⟨m, hm⟩ := Hex.out
            obtain ⟨h1, h2, h3, _⟩ := nextN_out hm
            rw [Hul.out] at h1
            rcases Hno.out m (by omega) with h | h
            · rw [h] at h3; cases h3
            · exact h2 h
      · obtain rfl : rl = n := by omega
        have hrow : row = rowN (webN ls) := by have := HR.out; rw [Nat.sub_self] at this; exact this
        have Hrow := Lib.hid hrow
        have KE : Hid (OrdOut w (.slice a rl c) ls wr) := Lib.hid (KF.out.out.below (by rw [HTB.out]; exact HL.out))
        have ZE : Hid (Blk wr w.heap.size 28 Z4) := Lib.hid (KF.out.zb.below HL.out (by omega))
        have z0 : wr.cell? ⟨w.heap.size, 0, none⟩ = some (.int .i64 0) := ZE.out.cell rfl; have z1 : wr.cell? ⟨w.heap.size, 1, none⟩ = some (.int .i64 0) := ZE.out.cell rfl; have z2 : wr.cell? ⟨w.heap.size, 2, none⟩ = some (.int .i64 0) := ZE.out.cell rfl; have z3 : wr.cell? ⟨w.heap.size, 3, none⟩ = some (.int .i64 0) := ZE.out.cell rfl; have f0 := ZE.out.frozen 0; have f1 := ZE.out.frozen 1; have f2 := ZE.out.frozen 2; have f3 := ZE.out.frozen 3
        have d1 : decide ((rl : Int) < (rl : Int)) = false := by simp
        have lw : w.heap.size < wr.heap.size := ZE.out.lt
        clear hlt hrow
        go_wp2_with fail
        go_still_tail 5, mixed
        change wpList _ _ _ _ _ wr.drew
        go_wp2_with fail
        refine bodyPost_ret (v := .tuple #[.pointer (some ⟨w.heap.size + 3, 0, none⟩), .slice ra rl rc, .agg #[.int .i64 0, .int .i64 0, .int .i64 0, .int .i64 0]]) (by simp [results, Tryz.results31, go_sem, z0, z1, z2, z3]) rfl ?_
        unfold MOrdPost
        rw [Hfn.out]
        simp only
        rw [Hn.out]
        refine ⟨⟨⟨ra, rc, rfl, ?_⟩, ((((KE.out.below (below_drewN (Below.refl _ _) 1)).set 0 _).set 1 _).set 2 _).set 3 _⟩, ((((KE.out.low.drew.setCell (p := ⟨w.heap.size, 0, none⟩) (Nat.le_refl _) _).setCell (p := ⟨w.heap.size, 1, none⟩) (Nat.le_refl _) _).setCell (p := ⟨w.heap.size, 2, none⟩) (Nat.le_refl _) _).setCell (p := ⟨w.heap.size, 3, none⟩) (Nat.le_refl _) _)⟩
        rw [← Hrow.out]
        exact (((((HO.out.below (below_drewN (Below.refl _ _) 1) (Nat.le_refl _)).mono (by omega)).setFar (p := ⟨w.heap.size, 0, none⟩) (by show w.heap.size < w.heap.size + 5; omega) _).setFar (p := ⟨w.heap.size, 1, none⟩) (by show w.heap.size < w.heap.size + 5; omega) _).setFar (p := ⟨w.heap.size, 2, none⟩) (by show w.heap.size < w.heap.size + 5; omega) _).setFar (p := ⟨w.heap.size, 3, none⟩) (by show w.heap.size < w.heap.size + 5; omega) _
end Go.Proofs.YtikplcpghohklaaGreat
