/- modules: Order and Close. -/
import Derived.Test.YtikplcpghohklaaGreatMOrder
import Derived.Test.YtikplcpghohklaaGreatMDel
import Derived.Deep.RegionHeld3
namespace Go.Proofs.YtikplcpghohklaaGreat
set_option linter.unusedSimpArgs false
set_option linter.unusedVariables false
open Go.RowKit

/-- what 'order' is known to answer, for the walk -/
def OrdG (ls : List Language) (v : Value) (w : World) (pv sv : Value) (x0 x1 x2 x3 : Int) (w' : World) : Prop :=
  match faultN ls with
    | some f => pv = .pointer none ∧ sv = .slice none 0 0 ∧ x0 = (f.list : Int) ∧ x1 = (f.at_ : Int) ∧ x2 = (f.part : Int) ∧ x3 = (f.err : Int)
    | none => (∃ (a : Option Addr) (c : Nat), pv = .pointer (some ⟨w.heap.size + 3, 0, none⟩) ∧ sv = .slice a ls.length c ∧ x0 = 0 ∧ x1 = 0 ∧ x2 = 0 ∧ x3 = 0 ∧ Own1 w' (w.heap.size + 5) 3 1 IsInt (.slice a ls.length c) ((rowN (webN ls)).map fun (n : Nat) => (n : Int))) ∧ OrdOut w v ls w'
theorem order_g {ls : List Language} {v : Value} (w w0 : World) (hs : LsR w0 w0.heap.size v ls) (hw : Below w0.heap.size w0 w) :
    Calls Tryz.prog 31 #[v] w fun e w' => (∃ (pv sv : Value) (x0 x1 x2 x3 : Int), e = .returned (.tuple #[pv, sv, .agg #[.int .i64 x0, .int .i64 x1, .int .i64 x2, .int .i64 x3]]) ∧ OrdG ls v w pv sv x0 x1 x2 x3 w') ∧ Below w.heap.size w w' := by
  refine (m_order w w0 hs hw).mono ?_
  rintro e w' ⟨h, b⟩
  refine ⟨?_, b⟩
  unfold OrdG
  cases hf : faultN ls with
  | some f => rw [hf] at h; exact ⟨_, _, _, _, _, _, h, rfl, rfl, rfl, rfl, rfl, rfl⟩
  | none =>
    rw [hf] at h
    obtain ⟨⟨a, c, he, ho⟩, hx⟩ := h
    exact ⟨_, _, _, _, _, _, he, ⟨a, c, rfl, rfl, rfl, rfl, rfl, rfl, ho⟩, hx⟩
/-- how 'Order' answers -/
def MOPost (ls : List Language) (w : World) (e : Ending) (w' : World) : Prop :=
  (match faultN ls with
    | some f => e = .returned (.tuple #[.slice none 0 0, fltR f])
    | none => ∃ a c, e = .returned (.tuple #[.slice a ls.length c, fltV 0 0 0 0]) ∧ SlR w' w'.heap.size 1 IsInt (.slice a ls.length c) ((rowN (webN ls)).map fun (n : Nat) => (n : Int))) ∧ Below w.heap.size w w'
set_option maxRecDepth 100000 in
set_option maxHeartbeats 8000000 in
theorem m_Order {ls : List Language} {v : Value} (w w0 : World) (hs : LsR w0 w0.heap.size v ls) (hw : Below w0.heap.size w0 w) :
    Calls Tryz.prog 10 #[v] w (MOPost ls w) := by
  have hA := hw.alloc hw.size (.cells Z4 28)
  have HC := Lib.hid (order_g (w.alloc (.cells Z4 28)) w0 hs hA)
  have ZB : Hid (Blk (w.alloc (.cells Z4 28)) w.heap.size 28 Z4) := Lib.hid (Blk.new w _ _)
  have LB : Hid (Below w.heap.size w (w.alloc (.cells Z4 28))) := Lib.hid ((Below.refl _ _).alloc (Nat.le_refl _) _)
  clear hs hw hA
  go_enter Tryz.func10, Tryz.ntmps10
  go_wp2_with (go_at_call 31; refine HC.out.mono ?_; rintro en w1 ⟨⟨pv, sv, x0, x1, x2, x3, rfl, hG⟩, b⟩; have G1 := Lib.hid hG; have b2 : Below (w.heap.size + 1) (w.alloc (.cells Z4 28)) w1 := b.mono (by simp); have Z1 : Hid (Blk w1 w.heap.size 28 Z4) := Lib.hid (ZB.out.below b2 (by omega)); have L1 : Hid (Below w.heap.size w w1) := Lib.hid (LB.out.trans (b2.mono (by omega))); clear hG b b2)
  generalize hW2 : World.alloc w1 _ = W2
  have Z2 : Hid (Blk W2 w.heap.size 28 Z4) := Lib.hid (by rw [← hW2]; exact Z1.out.alloc _)
  have L2 : Hid (Below w.heap.size w W2) := Lib.hid (by rw [← hW2]; exact L1.out.alloc L1.out.size _)
  have B12 : Hid (Below w1.heap.size w1 W2) := Lib.hid (by rw [← hW2]; exact (Below.refl _ _).alloc (Nat.le_refl _) _)
  have B2 : Blk W2 w1.heap.size 28 #[.int .i64 x0, .int .i64 x1, .int .i64 x2, .int .i64 x3] := by rw [← hW2]; exact Blk.new w1 _ _
  clear hW2
  have z0 : W2.cell? ⟨w.heap.size, 0, none⟩ = some (.int .i64 0) := Z2.out.cell rfl; have z1 : W2.cell? ⟨w.heap.size, 1, none⟩ = some (.int .i64 0) := Z2.out.cell rfl; have z2 : W2.cell? ⟨w.heap.size, 2, none⟩ = some (.int .i64 0) := Z2.out.cell rfl; have z3 : W2.cell? ⟨w.heap.size, 3, none⟩ = some (.int .i64 0) := Z2.out.cell rfl; have f0 := Z2.out.frozen 0; have f1 := Z2.out.frozen 1; have f2 := Z2.out.frozen 2; have f3 := Z2.out.frozen 3
  have y0 : W2.cell? ⟨w1.heap.size, 0, none⟩ = some (.int .i64 x0) := B2.cell rfl
  have y1 : W2.cell? ⟨w1.heap.size, 1, none⟩ = some (.int .i64 x1) := B2.cell rfl
  have y2 : W2.cell? ⟨w1.heap.size, 2, none⟩ = some (.int .i64 x2) := B2.cell rfl
  have y3 : W2.cell? ⟨w1.heap.size, 3, none⟩ = some (.int .i64 x3) := B2.cell rfl
  have lw : w.heap.size < w1.heap.size := Z1.out.lt
  clear B2
  go_wp2_with fail
  go_still_tail 3, mixed
  change wpList _ _ _ _ _ W2.drew
  go_wp2_with fail
  refine bodyPost_ret (v := .tuple #[sv, .agg #[.int .i64 x0, .int .i64 x1, .int .i64 x2, .int .i64 x3]]) (by simp [results, Tryz.results10, go_sem, z0, z1, z2, z3]) rfl ?_
  refine ⟨?_, ((((L2.out.drew.setCell (p := ⟨w.heap.size, 0, none⟩) (Nat.le_refl _) _).setCell (p := ⟨w.heap.size, 1, none⟩) (Nat.le_refl _) _).setCell (p := ⟨w.heap.size, 2, none⟩) (Nat.le_refl _) _).setCell (p := ⟨w.heap.size, 3, none⟩) (Nat.le_refl _) _)⟩
  have hG := G1.out
  unfold OrdG at hG
  cases hf : faultN ls with
  | some f =>
    rw [hf] at hG
    obtain ⟨rfl, rfl, rfl, rfl, rfl, rfl⟩ := hG
    rfl
  | none =>
    rw [hf] at hG
    obtain ⟨⟨a, c, rfl, rfl, rfl, rfl, rfl, rfl, hO⟩, _⟩ := hG
    refine ⟨a, c, rfl, ?_⟩
    have hO2 := hO.below (B12.out.drew) (Nat.le_refl _)
    exact (((((hO2.mono (base' := w.heap.size + 1) (by simp)).setFar (p := ⟨w.heap.size, 0, none⟩) (Nat.lt_succ_self _) _).setFar (p := ⟨w.heap.size, 1, none⟩) (Nat.lt_succ_self _) _).setFar (p := ⟨w.heap.size, 2, none⟩) (Nat.lt_succ_self _) _).setFar (p := ⟨w.heap.size, 3, none⟩) (Nat.lt_succ_self _) _).read (by omega)

theorem OrdOut.facts {wA W : World} {v : Value} {ls : List Language} {M : Nat} (h : OrdOut wA v ls W) (hM : wA.heap.size = M) : W.cell? ⟨M + 3, 1, none⟩ = some (.map (some (M + 1))) ∧ W.cell? ⟨M + 3, 2, none⟩ = some (.map (some (M + 2))) ∧ (ls.length ≤ 128 → UsesAt W (M + 2) (webN ls)) := by
  subst hM
  exact ⟨h.wb.cell rfl, h.wb.cell rfl, fun hle => h.uses hle⟩
set_option maxRecDepth 100000 in
theorem OrdOut.look {wA W : World} {v : Value} {ls : List Language} {M : Nat} {name : ByteArray} (h : OrdOut wA v ls W) (hM : wA.heap.size = M) (hkey : keyOf Tryz.prog 9 (.string name) = some (strKey name)) :
    (Instr.lookup 76 (.map (some (M + 1))) (.string name) true).run Tryz.prog W = .ok (.tuple #[.int .i64 (if findN ls name < 0 then 0 else findN ls name), .bool (decide (0 ≤ findN ls name))]) W := by
  subst hM
  obtain ⟨D, hD1, hD2, hD3, hD4⟩ := h.m1
  rw [List.take_of_length_le (Nat.le_refl _)] at hD3 hD4
  obtain ⟨vv, ps, hrun, hv⟩ := hD2.look_ok law_str Tryz.underlying76 (zero_int _) (plainElem_int Tryz.underlying3 (by decide)) hkey
  obtain ⟨cc, rfl, hcc, _⟩ := plainElem_int_inv Tryz.underlying3 hv
  have hfa := findN_any ls name
  by_cases e0 : findN ls name < 0
  · have hany : (ls.any fun l => decide (l.name = name)) = false := by rw [hfa]; simp; omega
    rw [Maps.atKey_of_not_has (by rw [hD3]; exact hany)] at hcc
    injection hcc with hcc _
    injection hcc with hcc
    injection hcc with _ hcc
    rw [hD3, hfa, ← hcc] at hrun
    rw [if_pos e0]
    exact hrun
  · have hany : (ls.any fun l => decide (l.name = name)) = true := by rw [hfa]; simp; omega
    rw [hD4 _ hany] at hcc
    injection hcc with hcc _
    injection hcc with hcc
    injection hcc with _ hcc
    rw [hD3, hfa, ← hcc] at hrun
    rw [if_neg e0]
    exact hrun
theorem Own1.keptNe {α : Type} {w w' : World} {base size : Nat} {e : TypeId} {R : List Value → α → Prop} {v : Value} {l : List α} {row : Option Nat} (h : Own1 w base e size R v l) (hg : w.grownBy w' row) (hr : ∀ j, row = some j → j < base) : Own1 w' base e size R v l := by
  obtain ⟨xs, h1, h2⟩ := h
  refine ⟨xs, h1.kept hg ?_, h2⟩
  rcases h1.2 with ⟨rfl, _⟩ | ⟨g, cap, cur, rfl, hb, _⟩
  · exact .inl rfl
  · refine .inr (fun e => ?_)
    have := hr g e.symm
    omega
theorem keepT {W : World} {g h : Nat} {u0 u1 u2 u3 : Value} (hne : h < g) (a b c d : Value) (K : W.cell? ⟨g, 0, none⟩ = some u0 ∧ W.cell? ⟨g, 1, none⟩ = some u1 ∧ W.cell? ⟨g, 2, none⟩ = some u2 ∧ W.cell? ⟨g, 3, none⟩ = some u3) :
    ((((W.setCell ⟨h, 0, none⟩ a).setCell ⟨h, 1, none⟩ b).setCell ⟨h, 2, none⟩ c).setCell ⟨h, 3, none⟩ d).cell? ⟨g, 0, none⟩ = some u0 ∧ ((((W.setCell ⟨h, 0, none⟩ a).setCell ⟨h, 1, none⟩ b).setCell ⟨h, 2, none⟩ c).setCell ⟨h, 3, none⟩ d).cell? ⟨g, 1, none⟩ = some u1 ∧
    ((((W.setCell ⟨h, 0, none⟩ a).setCell ⟨h, 1, none⟩ b).setCell ⟨h, 2, none⟩ c).setCell ⟨h, 3, none⟩ d).cell? ⟨g, 2, none⟩ = some u2 ∧ ((((W.setCell ⟨h, 0, none⟩ a).setCell ⟨h, 1, none⟩ b).setCell ⟨h, 2, none⟩ c).setCell ⟨h, 3, none⟩ d).cell? ⟨g, 3, none⟩ = some u3 := by
  have key : ∀ (j : Nat), ((((W.setCell ⟨h, 0, none⟩ a).setCell ⟨h, 1, none⟩ b).setCell ⟨h, 2, none⟩ c).setCell ⟨h, 3, none⟩ d).cell? ⟨g, j, none⟩ = W.cell? ⟨g, j, none⟩ := by
    intro j
    have hx : ∀ i, (⟨h, i, none⟩ : Addr) ≠ ⟨g, j, none⟩ := fun i e => by injection e with e; omega
    rw [World.cell?_setCell_other _ _ _ _ (hx _), World.cell?_setCell_other _ _ _ _ (hx _), World.cell?_setCell_other _ _ _ _ (hx _), World.cell?_setCell_other _ _ _ _ (hx _)]
  exact ⟨(key 0).trans K.1, (key 1).trans K.2.1, (key 2).trans K.2.2.1, (key 3).trans K.2.2.2⟩
open Classical in
theorem close_filter (ls : List Language) (n0 : Nat) (out : List Nat) (h : ∀ m, m ∈ out ↔ m = n0 ∨ Reach (webN ls) n0 m) :
    ((rowN (webN ls)).map fun (n : Nat) => (n : Int)).filter (fun d => !(!((out.map fun (n : Nat) => (n : Int)).any fun x => decide (x = d)))) = (closeN ls n0).map fun (n : Nat) => (n : Int) := by
  unfold closeN
  rw [List.filter_map]
  congr 1
  refine List.filter_congr fun k _ => ?_
  simp only [Function.comp, Bool.not_not]
  rw [any_in]
  by_cases hk : k ∈ out
  · rw [decide_eq_true hk, decide_eq_true ((h k).1 hk)]
  · rw [decide_eq_false hk, decide_eq_false (fun e => hk ((h k).2 e))]
set_option maxRecDepth 100000 in
set_option maxHeartbeats 8000000 in
theorem m_Close {ls : List Language} {v : Value} (name : ByteArray) (hname : name.size ≤ maxLen) (w w0 : World) (hs : LsR w0 w0.heap.size v ls) (hw : Below w0.heap.size w0 w) :
    Calls Tryz.prog 13 #[v, .string name] w (ClosePost ls name w) := by
  have hA := hw.alloc hw.size (.cells Z4 28)
  have HC := Lib.hid (order_g (w.alloc (.cells Z4 28)) w0 hs hA)
  have ZB : Hid (Blk (w.alloc (.cells Z4 28)) w.heap.size 28 Z4) := Lib.hid (Blk.new w _ _)
  have LB : Hid (Below w.heap.size w (w.alloc (.cells Z4 28))) := Lib.hid ((Below.refl _ _).alloc (Nat.le_refl _) _)
  clear hs hw hA
  cases hf : faultN ls with
  | some f =>
    obtain ⟨fl, fa, fp, fe⟩ := f
    have hfe := fault_err hf
    have ne1 : ¬ (fe : Int) = 0 := by simp only at hfe; omega
    have ne2 : ((fe : Int) != 0) = true := by simpa using ne1
    have Hf := Lib.hid hf
    clear hfe hf
    go_enter Tryz.func13, Tryz.ntmps13
    go_wp2_with (go_at_call 31; refine HC.out.mono ?_; rintro en w1 ⟨⟨pv, sv, x0, x1, x2, x3, rfl, hG⟩, b⟩; (unfold OrdG at hG; rw [Hf.out] at hG; obtain ⟨rfl, rfl, rfl, rfl, rfl, rfl⟩ := hG); have b2 : Below (w.heap.size + 1) (w.alloc (.cells Z4 28)) w1 := b.mono (by simp); have Z1 : Hid (Blk w1 w.heap.size 28 Z4) := Lib.hid (ZB.out.below b2 (by omega)); have L1 : Hid (Below w.heap.size w w1) := Lib.hid (LB.out.trans (b2.mono (by omega))); clear b b2)
    generalize hW2 : World.alloc w1 _ = W2
    have Z2 : Hid (Blk W2 w.heap.size 28 Z4) := Lib.hid (by rw [← hW2]; exact Z1.out.alloc _)
    have L2 : Hid (Below w.heap.size w W2) := Lib.hid (by rw [← hW2]; exact L1.out.alloc L1.out.size _)
    have B2 : Blk W2 w1.heap.size 28 #[.int .i64 (fl : Int), .int .i64 (fa : Int), .int .i64 (fp : Int), .int .i64 (fe : Int)] := by rw [← hW2]; exact Blk.new w1 _ _
    clear hW2
    have z0 : W2.cell? ⟨w.heap.size, 0, none⟩ = some (.int .i64 0) := Z2.out.cell rfl; have z1 : W2.cell? ⟨w.heap.size, 1, none⟩ = some (.int .i64 0) := Z2.out.cell rfl; have z2 : W2.cell? ⟨w.heap.size, 2, none⟩ = some (.int .i64 0) := Z2.out.cell rfl; have z3 : W2.cell? ⟨w.heap.size, 3, none⟩ = some (.int .i64 0) := Z2.out.cell rfl; have f0 := Z2.out.frozen 0; have f1 := Z2.out.frozen 1; have f2 := Z2.out.frozen 2; have f3 := Z2.out.frozen 3
    have y0 : W2.cell? ⟨w1.heap.size, 0, none⟩ = some (.int .i64 (fl : Int)) := B2.cell rfl
    have y1 : W2.cell? ⟨w1.heap.size, 1, none⟩ = some (.int .i64 (fa : Int)) := B2.cell rfl
    have y2 : W2.cell? ⟨w1.heap.size, 2, none⟩ = some (.int .i64 (fp : Int)) := B2.cell rfl
    have y3 : W2.cell? ⟨w1.heap.size, 3, none⟩ = some (.int .i64 (fe : Int)) := B2.cell rfl
    have lw : w.heap.size < w1.heap.size := Z1.out.lt
    clear B2
    go_wp2_with fail
    go_still_tail 2, mixed
    change wpList _ _ _ _ _ W2.drew
    go_wp2_with fail
    refine bodyPost_ret (v := .tuple #[.slice none 0 0, .agg #[.int .i64 (fl : Int), .int .i64 (fa : Int), .int .i64 (fp : Int), .int .i64 (fe : Int)]]) (by simp [results, Tryz.results13, go_sem, z0, z1, z2, z3]) rfl ?_
    unfold ClosePost
    rw [Hf.out]
    exact ⟨rfl, ((((L2.out.drew.setCell (p := ⟨w.heap.size, 0, none⟩) (Nat.le_refl _) _).setCell (p := ⟨w.heap.size, 1, none⟩) (Nat.le_refl _) _).setCell (p := ⟨w.heap.size, 2, none⟩) (Nat.le_refl _) _).setCell (p := ⟨w.heap.size, 3, none⟩) (Nat.le_refl _) _)⟩
  | none =>
    have Hf := Lib.hid hf
    have hfound := (found_ok hf).1
    have hle := (found_ok hf).2
    have HLn := Lib.hid (fun (n0 : Nat) (h0 : n0 < (webN ls).length) (W0 W : World) p bu (hu : UsesAt W0 bu (webN ls)) (hc : W0.cell? ⟨p, 2, none⟩ = some (.map (some bu))) (hW : Below W0.heap.size W0 W) => m_leans p bu n0 W W0 hu hW hc (by rw [webN_len]; exact hle) h0 (by rw [webN_len]; exact webN_in ls hfound))
    have Hwl := Lib.hid (webN_len ls)
    have hkey : keyOf Tryz.prog 9 (.string name) = some (strKey name) := WideMaps.keyOf_string_mk Tryz.underlying9 hname
    have Hkey := Lib.hid hkey
    have hqlt := findN_lt ls name
    obtain ⟨q, hq⟩ : ∃ q, findN ls name = q := ⟨_, rfl⟩
    rw [hq] at hqlt
    have Hq := Lib.hid hq
    obtain ⟨n, hn⟩ : ∃ n, ls.length = n := ⟨_, rfl⟩
    rw [hn] at hqlt Hwl
    have Hn := Lib.hid hn
    have Hfo := Lib.hid hfound
    have Hle := Lib.hid hle
    clear hf hfound hle hkey hq hn
    have HM : Hid ((w.alloc (.cells Z4 28)).heap.size = w.heap.size + 1) := Lib.hid (by simp)
    have HLk := Lib.hid (fun W (h : OrdOut (w.alloc (.cells Z4 28)) v ls W) => h.look HM.out Hkey.out)
    by_cases hq0 : q < 0
    · have e1 : (if findN ls name < 0 then (0 : Int) else findN ls name) = 0 := by rw [if_pos (by rw [Hq.out]; exact hq0)]
      have e2 : decide (0 ≤ findN ls name) = false := by rw [Hq.out]; simpa using hq0
      rw [e1, e2] at HLk
      clear e1 e2
      go_enter Tryz.func13, Tryz.ntmps13
      go_wp2_with (go_at_call 31; refine HC.out.mono ?_; rintro en w1 ⟨⟨pv, sv, x0, x1, x2, x3, rfl, hG⟩, b⟩; (unfold OrdG at hG; rw [Hf.out] at hG; obtain ⟨⟨ra, rc, rfl, rfl, rfl, rfl, rfl, rfl, hO⟩, hX⟩ := hG); have O1 := Lib.hid hO; have X2 : Hid (OrdOut (w.alloc (.cells Z4 28)) v ls (w1.alloc (.cells #[.int .i64 0, .int .i64 0, .int .i64 0, .int .i64 0] 28))) := Lib.hid (hX.below ((Below.refl _ _).alloc (Nat.le_refl _) _)); obtain ⟨c1, c2, _⟩ := hX.facts HM.out; have l3 : w.heap.size + 1 + 3 < w1.heap.size := cell_lt c1; have hl := HLk.out _ X2.out; have b2 : Below (w.heap.size + 1) (w.alloc (.cells Z4 28)) w1 := b.mono (by simp); have Z1 : Hid (Blk w1 w.heap.size 28 Z4) := Lib.hid (ZB.out.below b2 (by omega)); have L1 : Hid (Below w.heap.size w w1) := Lib.hid (LB.out.trans (b2.mono (by omega))); have z0 : w1.cell? ⟨w.heap.size, 0, none⟩ = some (.int .i64 0) := Z1.out.cell rfl; have z1 : w1.cell? ⟨w.heap.size, 1, none⟩ = some (.int .i64 0) := Z1.out.cell rfl; have z2 : w1.cell? ⟨w.heap.size, 2, none⟩ = some (.int .i64 0) := Z1.out.cell rfl; have z3 : w1.cell? ⟨w.heap.size, 3, none⟩ = some (.int .i64 0) := Z1.out.cell rfl; have f0 := Z1.out.frozen 0; have f1 := Z1.out.frozen 1; have f2 := Z1.out.frozen 2; have f3 := Z1.out.frozen 3; have lw := Z1.out.lt; clear b b2 hO hX)
      refine bodyPost_ret (v := .tuple #[.slice none 0 0, .agg #[.int .i64 (-1), .int .i64 0, .int .i64 0, .int .i64 240]]) (by simp [results, Tryz.results13, go_sem, z0, z1, z2, z3, lw]) rfl ?_
      unfold ClosePost
      rw [Hf.out, Hq.out]
      refine ⟨?_, ?_⟩
      · simp only
        rw [if_pos hq0]
        all_goals trivial
      · refine Below.alloc ?_ (by have := L1.out.size; simpa using this) _
        exact ((((L1.out.setCell (p := ⟨w.heap.size, 0, none⟩) (Nat.le_refl _) _).setCell (p := ⟨w.heap.size, 1, none⟩) (Nat.le_refl _) _).setCell (p := ⟨w.heap.size, 2, none⟩) (Nat.le_refl _) _).setCell (p := ⟨w.heap.size, 3, none⟩) (Nat.le_refl _) _)
    · obtain ⟨m, rfl⟩ : ∃ m : Nat, q = (m : Int) := ⟨q.toNat, by omega⟩
      have hmn : m < n := by omega
      have e1 : (if findN ls name < 0 then (0 : Int) else findN ls name) = (m : Int) := by rw [if_neg (by rw [Hq.out]; exact hq0), Hq.out]
      have e2 : decide (0 ≤ findN ls name) = true := by rw [Hq.out]; simp
      rw [e1, e2] at HLk
      have HLm := Lib.hid (HLn.out m (by rw [Hwl.out]; exact hmn))
      clear e1 e2 HLn
      go_enter Tryz.func13, Tryz.ntmps13
      go_wp2_with (first
        | (go_at_call 31; refine HC.out.mono ?_; rintro en w1 ⟨⟨pv, sv, x0, x1, x2, x3, rfl, hG⟩, b⟩; (unfold OrdG at hG; rw [Hf.out] at hG; obtain ⟨⟨ra, rc, rfl, rfl, rfl, rfl, rfl, rfl, hO⟩, hX⟩ := hG); have O1 := Lib.hid hO; have X2 : Hid (OrdOut (w.alloc (.cells Z4 28)) v ls (w1.alloc (.cells #[.int .i64 0, .int .i64 0, .int .i64 0, .int .i64 0] 28))) := Lib.hid (hX.below ((Below.refl _ _).alloc (Nat.le_refl _) _)); obtain ⟨c1, c2, _⟩ := hX.facts HM.out; have l3 : w.heap.size + 1 + 3 < w1.heap.size := cell_lt c1; have hl := HLk.out _ X2.out; have b2 : Below (w.heap.size + 1) (w.alloc (.cells Z4 28)) w1 := b.mono (by simp); have Z1 : Hid (Blk w1 w.heap.size 28 Z4) := Lib.hid (ZB.out.below b2 (by omega)); have L1 : Hid (Below w.heap.size w w1) := Lib.hid (LB.out.trans (b2.mono (by omega))); have z0 : w1.cell? ⟨w.heap.size, 0, none⟩ = some (.int .i64 0) := Z1.out.cell rfl; have z1 : w1.cell? ⟨w.heap.size, 1, none⟩ = some (.int .i64 0) := Z1.out.cell rfl; have z2 : w1.cell? ⟨w.heap.size, 2, none⟩ = some (.int .i64 0) := Z1.out.cell rfl; have z3 : w1.cell? ⟨w.heap.size, 3, none⟩ = some (.int .i64 0) := Z1.out.cell rfl; have f0 := Z1.out.frozen 0; have f1 := Z1.out.frozen 1; have f2 := Z1.out.frozen 2; have f3 := Z1.out.frozen 3; have lw := Z1.out.lt; clear b b2 hO hX)
        | (go_at_call 32; obtain ⟨d1, d2, hu⟩ := X2.out.facts HM.out; refine (HLm.out _ _ _ _ (hu Hle.out) d2 (Below.refl _ _)).mono ?_; rintro el w3 ⟨⟨oa, oc, out, rfl, ho, hmem⟩, bl⟩; clear d1 d2 hu; have OO := Lib.hid ho; have Hmem := Lib.hid hmem; have B13 : Hid (Below w1.heap.size w1 w3) := Lib.hid (((Below.refl _ _).alloc (Nat.le_refl _) _).trans (bl.mono (by simp))); have T3 : Hid (Blk w3 w1.heap.size 28 Z4) := Lib.hid (((Blk.new w1 28 Z4).below bl (by simp))); clear ho hmem bl))
      generalize hW5 : World.alloc w3 _ = W5
      have B35 : Hid (Below w3.heap.size w3 W5) := Lib.hid (by rw [← hW5]; exact (Below.refl _ _).alloc (Nat.le_refl _) _)
      have C5 : Hid (Blk W5 w3.heap.size 25 #[.slice oa out.length oc]) := Lib.hid (by rw [← hW5]; exact Blk.new w3 _ _)
      clear hW5
      have B15 : Hid (Below w1.heap.size w1 W5) := Lib.hid (B13.out.trans (B35.out.mono B13.out.size))
      have Z5 : Hid (Blk W5 w.heap.size 28 Z4) := Lib.hid (Z1.out.below B15.out lw)
      have T5 : Hid (Blk W5 w1.heap.size 28 Z4) := Lib.hid (T3.out.below B35.out T3.out.lt)
      have L5 : Hid (Below w.heap.size w W5) := Lib.hid (L1.out.trans (B15.out.mono (Nat.le_of_lt lw)))
      have O5 := Lib.hid (O1.out.below B15.out (Nat.le_refl _))
      have OO5 := Lib.hid (OO.out.below B35.out (Nat.le_refl _))
      have Hrb := Lib.hid (fun g h => (O1.out.block g h).2)
      have Hrb2 := Lib.hid (fun g h => (show w.heap.size < g by have := (O1.out.block g h).1; simp at this; omega))
      have HDel : Hid (∀ W, Quiet W5 W → Calls Tryz.prog 33 #[.slice ra ls.length rc, .func (.func 34) #[] #[.pointer (some ⟨w3.heap.size, 0, none⟩)]] W fun e w' => (∃ (a : Option Addr) (n c : Nat), e = .returned (.slice a n c) ∧ ∀ W' : World, (∀ p : Addr, (Value.slice ra ls.length rc).ownBlock = some p.block → W'.cell? p = w'.cell? p) → w'.heap.size ≤ W'.heap.size → SlR W' W'.heap.size 1 IsInt (.slice a n c) ((closeN ls m).map fun (n : Nat) => (n : Int))) ∧ W.grownBy w' (Value.slice ra ls.length rc).ownBlock) := Lib.hid (fun W hq => by
        have hsz := B13.out.size
        have h := m_delete (base := _) 34 #[.pointer (some ⟨w3.heap.size, 0, none⟩)] (fun d => !((out.map fun (n : Nat) => (n : Int)).any fun x => decide (x = d))) W (O5.out.below (hq.below _) (Nat.le_refl _)) (fun args w => by go_simp) (fun y W2 hg => by
          have hb : ∀ j, (Value.slice ra ls.length rc).ownBlock = some j → j < w1.heap.size := Hrb.out
          refine m_clos2 y w3.heap.size W2 W2 (((OO5.out.below (hq.below _) (Nat.le_refl _)).keptNe hg (fun j hj => by have := hb j hj; simp; omega)).read (by omega)) (Below.refl _ _) ?_
          refine cell_grown hg (p := ⟨w3.heap.size, 0, none⟩) ?_ (fun e => by have := hb _ e.symm; simp only at this; omega)
          obtain ⟨k, rfl⟩ := hq
          exact C5.out.cell (i := 0) rfl)
        rw [close_filter ls m out Hmem.out] at h
        exact h)
      have y0 : W5.cell? ⟨w1.heap.size, 0, none⟩ = some (.int .i64 0) := T5.out.cell (i := 0) rfl
      have y1 : W5.cell? ⟨w1.heap.size, 1, none⟩ = some (.int .i64 0) := T5.out.cell (i := 1) rfl
      have y2 : W5.cell? ⟨w1.heap.size, 2, none⟩ = some (.int .i64 0) := T5.out.cell (i := 2) rfl
      have y3 : W5.cell? ⟨w1.heap.size, 3, none⟩ = some (.int .i64 0) := T5.out.cell (i := 3) rfl
      have tok : True := trivial
      clear z0 z1 z2 z3 f0 f1 f2 f3 hl c1 c2
      go_wp2_with fail
      go_region_held3 (fun W => W.cell? ⟨w1.heap.size, 0, none⟩ = some (.int .i64 0) ∧ W.cell? ⟨w1.heap.size, 1, none⟩ = some (.int .i64 0) ∧ W.cell? ⟨w1.heap.size, 2, none⟩ = some (.int .i64 0) ∧ W.cell? ⟨w1.heap.size, 3, none⟩ = some (.int .i64 0))
        (first
          | go_keep
          | (have _k := KT; exact KT)
          | (have _k := KT; exact keepT (by omega) _ _ _ _ KT)
          | fail)
        (first
          | (go_at_call 33
             have _t := tok
             refine (HDel.out _ (by first | exact Quiet.refl _ | exact ⟨1, rfl⟩ | exact ⟨_, rfl⟩)).mono ?_
             rintro e w9 ⟨⟨da, dn, dc, rfl, hsl⟩, hgr⟩
             have hgr5 : W5.grownBy w9 (Value.slice ra ls.length rc).ownBlock := ⟨hgr.os, hgr.tape, hgr.output, hgr.size, hgr.block⟩
             have T9 := T5.out.grown hgr5 (fun e => by have := Hrb.out _ e.symm; omega)
             have KT : w9.cell? ⟨w1.heap.size, 0, none⟩ = some (.int .i64 0) ∧ w9.cell? ⟨w1.heap.size, 1, none⟩ = some (.int .i64 0) ∧ w9.cell? ⟨w1.heap.size, 2, none⟩ = some (.int .i64 0) ∧ w9.cell? ⟨w1.heap.size, 3, none⟩ = some (.int .i64 0) := ⟨T9.cell (i := 0) rfl, T9.cell (i := 1) rfl, T9.cell (i := 2) rfl, T9.cell (i := 3) rfl⟩
             have Z9 : Hid (Blk w9 w.heap.size 28 Z4) := Lib.hid (Z5.out.grown hgr5 (fun e => by have := Hrb2.out _ e.symm; omega))
             have z0 : w9.cell? ⟨w.heap.size, 0, none⟩ = some (.int .i64 0) := Z9.out.cell rfl; have z1 : w9.cell? ⟨w.heap.size, 1, none⟩ = some (.int .i64 0) := Z9.out.cell rfl; have z2 : w9.cell? ⟨w.heap.size, 2, none⟩ = some (.int .i64 0) := Z9.out.cell rfl; have z3 : w9.cell? ⟨w.heap.size, 3, none⟩ = some (.int .i64 0) := Z9.out.cell rfl; have f0 := Z9.out.frozen 0; have f1 := Z9.out.frozen 1; have f2 := Z9.out.frozen 2; have f3 := Z9.out.frozen 3
             have L9 : Hid (Below w.heap.size w w9) := Lib.hid (L5.out.grown hgr5 L5.out.size (fun g hg => Nat.le_of_lt (Hrb2.out g hg)))
             have S9 := Lib.hid hsl
             have G9 := Lib.hid hgr5
             clear tok _t hsl hgr hgr5 T9)
          | fail)
      go_wp2_with fail
      refine bodyPost_ret (v := .tuple #[.slice da dn dc, .agg #[.int .i64 0, .int .i64 0, .int .i64 0, .int .i64 0]]) (by simp [results, Tryz.results13, go_sem, z0, z1, z2, z3]) rfl ?_
      unfold ClosePost
      rw [Hf.out, Hq.out]
      refine ⟨?_, ((((L9.out.setCell (p := ⟨w.heap.size, 0, none⟩) (Nat.le_refl _) _).setCell (p := ⟨w.heap.size, 1, none⟩) (Nat.le_refl _) _).setCell (p := ⟨w.heap.size, 2, none⟩) (Nat.le_refl _) _).setCell (p := ⟨w.heap.size, 3, none⟩) (Nat.le_refl _) _)⟩
      simp only
      rw [if_neg (by omega)]
      refine ⟨da, dn, dc, rfl, ?_⟩
      rw [Int.toNat_natCast]
      refine S9.out _ (fun p hp => ?_) (by simp)
      have hne := Hrb2.out _ hp
      have hx : ∀ i, (⟨w.heap.size, i, none⟩ : Addr) ≠ p := fun i e => by rw [← e] at hne; exact absurd hne (Nat.lt_irrefl _)
      rw [World.cell?_setCell_other _ _ _ _ (hx _), World.cell?_setCell_other _ _ _ _ (hx _), World.cell?_setCell_other _ _ _ _ (hx _), World.cell?_setCell_other _ _ _ _ (hx _)]

end Go.Proofs.YtikplcpghohklaaGreat
