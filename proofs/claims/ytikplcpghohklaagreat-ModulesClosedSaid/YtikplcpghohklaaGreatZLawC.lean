/- A language goes with all that is used by one of those that go with it, and with no other one: 'topiarylaw24.ModulesClosed' returns true whatever the languages and the name; no condition but the reach. -/
import Derived.Test.YtikplcpghohklaaGreatZShare
import Derived.Deep.QuietTactic
import Derived.BigQuiet
import Derived.Test.YtikplcpghohklaaGreatOpen
import Derived.Test.YtikplcpghohklaaGreatRows
import Derived.ProofKit
import Derived.OpenShut
import Derived.ShutString
import Derived.ChangeOld
namespace Go.Proofs.YtikplcpghohklaaGreat
set_option linter.unusedSimpArgs false
set_option linter.unusedVariables false
open Go.RowKit

theorem close_fault {ls : List Language} {v : Value} {f : Flt} {name : ByteArray} (hname : name.size ≤ maxLen) (hf : faultN ls = some f) (w w0 : World) (hs : LsR w0 w0.heap.size v ls) (hw : Below w0.heap.size w0 w) :
    Calls Tryz.prog 13 #[v, .string name] w fun e w' => e = .returned (.tuple #[.slice none 0 0, .agg #[.int .i64 (f.list : Int), .int .i64 (f.at_ : Int), .int .i64 (f.part : Int), .int .i64 (f.err : Int)]]) ∧ Below w.heap.size w w' :=
  (m_Close name hname w w0 hs hw).mono fun e w' h => by
    unfold ClosePost at h
    rw [hf] at h
    exact h
theorem close_nox {ls : List Language} {v : Value} {name : ByteArray} (hname : name.size ≤ maxLen) (hf : faultN ls = none) (hq : findN ls name < 0) (w w0 : World) (hs : LsR w0 w0.heap.size v ls) (hw : Below w0.heap.size w0 w) :
    Calls Tryz.prog 13 #[v, .string name] w fun e w' => e = .returned (.tuple #[.slice none 0 0, .agg #[.int .i64 (-1), .int .i64 0, .int .i64 0, .int .i64 240]]) ∧ Below w.heap.size w w' :=
  (m_Close name hname w w0 hs hw).mono fun e w' h => by
    unfold ClosePost at h
    rw [hf] at h
    simp only [if_pos hq] at h
    exact h
theorem close_here {ls : List Language} {v : Value} {name : ByteArray} {m : Nat} (hname : name.size ≤ maxLen) (hf : faultN ls = none) (hq : findN ls name = (m : Int)) (w w0 : World) (hs : LsR w0 w0.heap.size v ls) (hw : Below w0.heap.size w0 w) :
    Calls Tryz.prog 13 #[v, .string name] w fun e w' => (∃ a c, e = .returned (.tuple #[.slice a (closeN ls m).length c, .agg #[.int .i64 0, .int .i64 0, .int .i64 0, .int .i64 0]]) ∧ SlR w' w'.heap.size 1 IsInt (.slice a (closeN ls m).length c) ((closeN ls m).map fun (n : Nat) => (n : Int))) ∧ Below w.heap.size w w' :=
  (m_Close name hname w w0 hs hw).mono fun e w' h => by
    unfold ClosePost at h
    rw [hf] at h
    simp only at h
    rw [if_neg (by rw [hq]; omega), hq, Int.toNat_natCast] at h
    obtain ⟨⟨a, n, c, he, hs⟩, hb⟩ := h
    have hn := hs.len
    rw [List.length_map] at hn
    subst hn
    exact ⟨⟨a, c, he, hs⟩, hb⟩
theorem quiet_callv {P : Program} {f : FuncId} {args : Array Value} {w : World} {n : Nat} {v : Value} (h : Calls P f args (w.drewN n) fun e w' => e = .returned v ∧ Quiet (w.drewN n) w') :
    Calls P f args (w.drewN n) fun e w'' => e = .returned v ∧ ∃ m, w'' = w.drewN m :=
  h.mono fun _ _ ⟨he, m, hm⟩ => ⟨he, n + m, by rw [hm, World.drewN_drewN]⟩
set_option maxRecDepth 100000 in
set_option maxHeartbeats 8000000 in
theorem lawCl_walk {ls : List Language} {v : Value} (name : ByteArray) (hname : name.size ≤ maxLen) (w : World) (hs : LsR w w.heap.size v ls) :
    Calls Tryz.prog 4 #[v, .string name] w fun e w' => e = .returned (.bool true) ∧ Below w.heap.size w w' := by
  have HA := Lib.hid (z_awake w)
  have HG := Lib.hid (fun W (hW : Below w.heap.size w W) => great_any W w hs hW)
  have HFn := Lib.hid (fun W (hW : Below w.heap.size w W) => z_find name W w hs hW)
  obtain ⟨a, c, rfl⟩ : ∃ a c, v = .slice a ls.length c := by obtain ⟨a, c, h, _⟩ := hs.form; exact ⟨a, c, h⟩
  have hcap := hs.caps
  have hn63 : ls.length ≤ 9223372036854775807 := by unfold maxLen at hcap; omega
  have Hs := Lib.hid hs
  obtain ⟨q, hq⟩ : ∃ q, findN ls name = q := ⟨_, rfl⟩
  have hqn : q < (ls.length : Int) := by rw [← hq]; exact findN_lt ls name
  cases hf : faultN ls with
  | some f =>
    have hfe := fault_err hf
    have ne1 : ¬ (f.err : Int) = 0 := by omega
    have ne2 : ((f.err : Int) != 0) = true := by simpa using ne1
    have HO := Lib.hid (fun W (hW : Below w.heap.size w W) => order_fault hf W w hs hW)
    have HC := Lib.hid (fun W (hW : Below w.heap.size w W) => close_fault hname hf W w hs hW)
    rw [hq] at HFn
    clear hf hs hcap hfe hq
    go_enter Tryz.func4, Tryz.ntmps4
    try dsimp only [List.append]
    go_wp2_with (first
      | (go_at_call 8; refine HA.out.mono ?_; rintro e w1 ⟨rfl, hb⟩; have L1 := Lib.hid hb; clear hb)
      | (go_at_call 9; refine (HG.out _ L1.out).mono ?_; rintro e w2 ⟨⟨b, rfl⟩, hb⟩; have L2 : Hid (Below w.heap.size w w2) := Lib.hid (L1.out.trans (hb.mono L1.out.size)); clear hb; cases b)
      | (go_at_call 13; refine (HC.out _ L2.out).mono ?_; rintro e w3 ⟨rfl, hb⟩; have L3 : Hid (Below w.heap.size w w3) := Lib.hid (L2.out.trans (hb.mono L2.out.size)); clear hb)
      | (go_at_call 10; refine (HO.out _ (L3.out.alloc L3.out.size _)).mono ?_; rintro e w4 ⟨rfl, hb⟩; have hb4 : Below (w3.heap.size + 1) (w3.alloc (.cells #[.int .i64 (f.list : Int), .int .i64 (f.at_ : Int), .int .i64 (f.part : Int), .int .i64 (f.err : Int)] 28)) w4 := hb.mono (by simp); have B34 : Hid (Below w3.heap.size w3 w4) := Lib.hid (((Below.refl _ _).alloc (Nat.le_refl _) _).trans (hb4.mono (by omega))); have T3 : Hid (Blk w4 w3.heap.size 28 #[.int .i64 (f.list : Int), .int .i64 (f.at_ : Int), .int .i64 (f.part : Int), .int .i64 (f.err : Int)]) := Lib.hid ((Blk.new w3 _ _).below hb4 (by omega)); have L4 : Hid (Below w.heap.size w w4) := Lib.hid (L3.out.trans (B34.out.mono L3.out.size)); clear hb hb4)
      | (go_at_call 12; refine (HFn.out _ (L4.out.alloc L4.out.size _)).mono ?_; rintro e w5 ⟨rfl, q5⟩; have T35 : Hid (Blk w5 w3.heap.size 28 #[.int .i64 (f.list : Int), .int .i64 (f.at_ : Int), .int .i64 (f.part : Int), .int .i64 (f.err : Int)]) := Lib.hid ((T3.out.alloc (.cells #[.int .i64 (f.list : Int), .int .i64 (f.at_ : Int), .int .i64 (f.part : Int), .int .i64 (f.err : Int)] 28)).below (q5.below (w4.heap.size + 1)) (by have := T3.out.lt; omega)); have T45 : Hid (Blk w5 w4.heap.size 28 #[.int .i64 (f.list : Int), .int .i64 (f.at_ : Int), .int .i64 (f.part : Int), .int .i64 (f.err : Int)]) := Lib.hid ((Blk.new w4 28 #[.int .i64 (f.list : Int), .int .i64 (f.at_ : Int), .int .i64 (f.part : Int), .int .i64 (f.err : Int)]).below (q5.below (w4.heap.size + 1)) (by omega)); have B45 : Hid (Below w4.heap.size w4 w5) := Lib.hid (((Below.refl _ _).alloc (Nat.le_refl _) (.cells #[.int .i64 (f.list : Int), .int .i64 (f.at_ : Int), .int .i64 (f.part : Int), .int .i64 (f.err : Int)] 28)).trans (q5.below _)); have L5 : Hid (Below w.heap.size w w5) := Lib.hid (L4.out.trans (B45.out.mono L4.out.size)); have y0 : w5.cell? ⟨w3.heap.size, 0, none⟩ = some (.int .i64 (f.list : Int)) := T35.out.cell (i := 0) rfl; have y1 : w5.cell? ⟨w3.heap.size, 1, none⟩ = some (.int .i64 (f.at_ : Int)) := T35.out.cell (i := 1) rfl; have y2 : w5.cell? ⟨w3.heap.size, 2, none⟩ = some (.int .i64 (f.part : Int)) := T35.out.cell (i := 2) rfl; have y3 : w5.cell? ⟨w3.heap.size, 3, none⟩ = some (.int .i64 (f.err : Int)) := T35.out.cell (i := 3) rfl; have z0 : w5.cell? ⟨w4.heap.size, 0, none⟩ = some (.int .i64 (f.list : Int)) := T45.out.cell (i := 0) rfl; have z1 : w5.cell? ⟨w4.heap.size, 1, none⟩ = some (.int .i64 (f.at_ : Int)) := T45.out.cell (i := 1) rfl; have z2 : w5.cell? ⟨w4.heap.size, 2, none⟩ = some (.int .i64 (f.part : Int)) := T45.out.cell (i := 2) rfl; have z3 : w5.cell? ⟨w4.heap.size, 3, none⟩ = some (.int .i64 (f.err : Int)) := T45.out.cell (i := 3) rfl; clear q5))
    all_goals
      go_ret
      first
        | exact ⟨by simp, L5.out⟩
        | exact ⟨rfl, L5.out⟩
        | exact ⟨rfl, L2.out⟩
  | none =>
    have HO := Lib.hid (fun W (hW : Below w.heap.size w W) => order_none hf W w hs hW)
    obtain ⟨hg, hrl, hall, hfo⟩ := row_facts hf
    by_cases hq0 : q < 0
    · have HC := Lib.hid (fun W (hW : Below w.heap.size w W) => close_nox hname hf (by rw [hq]; exact hq0) W w hs hW)
      have d0 : decide (q < 0) = true := by simpa using hq0
      rw [hq] at HFn
      clear hf hs hcap hg hrl hall hfo hq
      go_enter Tryz.func4, Tryz.ntmps4
      try dsimp only [List.append]
      go_wp2_with (first
      | (go_at_call 8; refine HA.out.mono ?_; rintro e w1 ⟨rfl, hb⟩; have L1 := Lib.hid hb; clear hb)
      | (go_at_call 9; refine (HG.out _ L1.out).mono ?_; rintro e w2 ⟨⟨b, rfl⟩, hb⟩; have L2 : Hid (Below w.heap.size w w2) := Lib.hid (L1.out.trans (hb.mono L1.out.size)); clear hb; cases b)
      | (go_at_call 13; refine (HC.out _ L2.out).mono ?_; rintro e w3 ⟨rfl, hb⟩; have L3 : Hid (Below w.heap.size w w3) := Lib.hid (L2.out.trans (hb.mono L2.out.size)); clear hb)
      | (go_at_call 10; refine (HO.out _ (L3.out.alloc L3.out.size _)).mono ?_; rintro e w4 ⟨⟨ra, rc, rfl, hS⟩, hb⟩; have hb4 : Below (w3.heap.size + 1) (w3.alloc (.cells #[.int .i64 (-1), .int .i64 0, .int .i64 0, .int .i64 240] 28)) w4 := hb.mono (by simp); have B34 : Hid (Below w3.heap.size w3 w4) := Lib.hid (((Below.refl _ _).alloc (Nat.le_refl _) _).trans (hb4.mono (by omega))); have T3 : Hid (Blk w4 w3.heap.size 28 #[.int .i64 (-1), .int .i64 0, .int .i64 0, .int .i64 240]) := Lib.hid ((Blk.new w3 _ _).below hb4 (by omega)); have L4 : Hid (Below w.heap.size w w4) := Lib.hid (L3.out.trans (B34.out.mono L3.out.size)); clear hS; clear hb hb4)
      | (go_at_call 12; refine (HFn.out _ (L4.out.alloc L4.out.size _)).mono ?_; rintro e w5 ⟨rfl, q5⟩; have T35 : Hid (Blk w5 w3.heap.size 28 #[.int .i64 (-1), .int .i64 0, .int .i64 0, .int .i64 240]) := Lib.hid ((T3.out.alloc (.cells #[.int .i64 0, .int .i64 0, .int .i64 0, .int .i64 0] 28)).below (q5.below (w4.heap.size + 1)) (by have := T3.out.lt; omega)); have T45 : Hid (Blk w5 w4.heap.size 28 #[.int .i64 0, .int .i64 0, .int .i64 0, .int .i64 0]) := Lib.hid ((Blk.new w4 28 #[.int .i64 0, .int .i64 0, .int .i64 0, .int .i64 0]).below (q5.below (w4.heap.size + 1)) (by omega)); have B45 : Hid (Below w4.heap.size w4 w5) := Lib.hid (((Below.refl _ _).alloc (Nat.le_refl _) (.cells #[.int .i64 0, .int .i64 0, .int .i64 0, .int .i64 0] 28)).trans (q5.below _)); have L5 : Hid (Below w.heap.size w w5) := Lib.hid (L4.out.trans (B45.out.mono L4.out.size)); have y0 : w5.cell? ⟨w3.heap.size, 0, none⟩ = some (.int .i64 (-1)) := T35.out.cell (i := 0) rfl; have y1 : w5.cell? ⟨w3.heap.size, 1, none⟩ = some (.int .i64 0) := T35.out.cell (i := 1) rfl; have y2 : w5.cell? ⟨w3.heap.size, 2, none⟩ = some (.int .i64 0) := T35.out.cell (i := 2) rfl; have y3 : w5.cell? ⟨w3.heap.size, 3, none⟩ = some (.int .i64 240) := T35.out.cell (i := 3) rfl; have z0 : w5.cell? ⟨w4.heap.size, 0, none⟩ = some (.int .i64 0) := T45.out.cell (i := 0) rfl; have z1 : w5.cell? ⟨w4.heap.size, 1, none⟩ = some (.int .i64 0) := T45.out.cell (i := 1) rfl; have z2 : w5.cell? ⟨w4.heap.size, 2, none⟩ = some (.int .i64 0) := T45.out.cell (i := 2) rfl; have z3 : w5.cell? ⟨w4.heap.size, 3, none⟩ = some (.int .i64 0) := T45.out.cell (i := 3) rfl; clear q5))
      all_goals
        go_ret
        first
          | exact ⟨by simp, L5.out⟩
          | exact ⟨rfl, L5.out⟩
          | exact ⟨rfl, L2.out⟩
    · obtain ⟨m, rfl⟩ : ∃ m : Nat, q = (m : Int) := ⟨q.toNat, by omega⟩
      have hmn : m < ls.length := by omega
      have HC := Lib.hid (fun W (hW : Below w.heap.size w W) => close_here hname hf hq W w hs hW)
      rw [hq] at HFn
      have hac := acyc_of (ring_ok hf)
      obtain ⟨jm, hjm⟩ := hall m hmn
      obtain ⟨A, hA⟩ := close_last (List.mem_iff_getElem?.2 ⟨jm, hjm⟩)
      have Hord := Lib.hid (fun (i a b : Nat) (h1 : (closeN ls m)[i]? = some a) (h2 : (closeN ls m)[i + 1]? = some b) => close_order h1 h2)
      have Huse := Lib.hid (fun (k : Nat) (l : Language) (s : ByteArray) (h1 : k ∈ closeN ls m) (h2 : ls[k]? = some l) (h3 : s ∈ l.uses) => close_uses hac hfo h1 h2 h3)
      have Husd := Lib.hid (fun (k : Nat) (h1 : k ∈ closeN ls m) (h2 : k ≠ m) => close_used hac hfo hmn h1 h2)
      have Hmem := Lib.hid (fun (k : Nat) (h : k ∈ closeN ls m) => (show k < ls.length by have := (rowN_good (webN ls)).lt k (mem_close.1 h).1; rw [webN_len] at this; exact this))
      have Hnd := Lib.hid (close_nodup (ls := ls) (n := m))
      have hcl0 : (closeN ls m).length = A.length + 1 := by rw [hA]; simp
      have hlast : (closeN ls m)[A.length]? = some m := by rw [hA]; simp
      obtain ⟨cl, hcl⟩ : ∃ cl, closeN ls m = cl := ⟨_, rfl⟩
      rw [hcl] at HC Hord Huse Husd Hmem Hnd hcl0 hlast
      obtain ⟨row, hrow⟩ : ∃ r, rowN (webN ls) = r := ⟨_, rfl⟩
      rw [hrow] at HO Hord
      obtain ⟨cn, hcn⟩ : ∃ z, cl.length = z := ⟨_, rfl⟩
      rw [hcn] at HC hcl0
      have Hcn := Lib.hid hcn
      have Hfo := Lib.hid hfo
      have Hlast := Lib.hid hlast
      obtain ⟨A', hA'⟩ : ∃ z, A.length = z := ⟨_, rfl⟩
      rw [hA'] at hcl0 Hlast
      subst hcl0
      have hcm : A' + 1 ≤ ls.length := by
        rw [← hcn]
        exact nodup_le ls.length cl Hnd.out (fun x hx => Hmem.out x hx)
      have d0 : decide ((m : Int) < 0) = false := by simp
      have d1 : (((A' + 1 : Nat) : Int) == 0) = false := by simp; omega
      have d2 : ((((A' + 1 : Nat) : Int)) != 0) = true := by simp; omega
      have d3 : ((A' : Int) + 1 == 0) = false := by rw [beq_eq_false_iff_ne]; omega
      have Hs2 := Hs
      have HLn := Lib.hid (rfl : ls.length = ls.length)
      clear hf hs hcap hg hrl hall hfo hq hac hjm hA hlast hcl hrow hcn hA' hq0 hqn
      go_enter Tryz.func4, Tryz.ntmps4
      try dsimp only [List.append]
      go_wp2_with (first
      | (go_at_call 8; refine HA.out.mono ?_; rintro e w1 ⟨rfl, hb⟩; have L1 := Lib.hid hb; clear hb)
      | (go_at_call 9; refine (HG.out _ L1.out).mono ?_; rintro e w2 ⟨⟨b, rfl⟩, hb⟩; have L2 : Hid (Below w.heap.size w w2) := Lib.hid (L1.out.trans (hb.mono L1.out.size)); clear hb; cases b)
      | (go_at_call 13; refine (HC.out _ L2.out).mono ?_; rintro e w3 ⟨⟨la_, lc_, rfl, hS⟩, hb⟩; have L3 : Hid (Below w.heap.size w w3) := Lib.hid (L2.out.trans (hb.mono L2.out.size)); have S3 := Lib.hid hS; clear hS; clear hb)
      | (go_at_call 10; refine (HO.out _ (L3.out.alloc L3.out.size _)).mono ?_; rintro e w4 ⟨⟨ra, rc, rfl, hS⟩, hb⟩; have hb4 : Below (w3.heap.size + 1) (w3.alloc (.cells #[.int .i64 0, .int .i64 0, .int .i64 0, .int .i64 0] 28)) w4 := hb.mono (by simp); have B34 : Hid (Below w3.heap.size w3 w4) := Lib.hid (((Below.refl _ _).alloc (Nat.le_refl _) _).trans (hb4.mono (by omega))); have T3 : Hid (Blk w4 w3.heap.size 28 #[.int .i64 0, .int .i64 0, .int .i64 0, .int .i64 0]) := Lib.hid ((Blk.new w3 _ _).below hb4 (by omega)); have L4 : Hid (Below w.heap.size w w4) := Lib.hid (L3.out.trans (B34.out.mono L3.out.size)); have S4 := Lib.hid hS; clear hS; clear hb hb4)
      | (go_at_call 12; refine (HFn.out _ (L4.out.alloc L4.out.size _)).mono ?_; rintro e w5 ⟨rfl, q5⟩; have T35 : Hid (Blk w5 w3.heap.size 28 #[.int .i64 0, .int .i64 0, .int .i64 0, .int .i64 0]) := Lib.hid ((T3.out.alloc (.cells #[.int .i64 0, .int .i64 0, .int .i64 0, .int .i64 0] 28)).below (q5.below (w4.heap.size + 1)) (by have := T3.out.lt; omega)); have T45 : Hid (Blk w5 w4.heap.size 28 #[.int .i64 0, .int .i64 0, .int .i64 0, .int .i64 0]) := Lib.hid ((Blk.new w4 28 #[.int .i64 0, .int .i64 0, .int .i64 0, .int .i64 0]).below (q5.below (w4.heap.size + 1)) (by omega)); have B45 : Hid (Below w4.heap.size w4 w5) := Lib.hid (((Below.refl _ _).alloc (Nat.le_refl _) (.cells #[.int .i64 0, .int .i64 0, .int .i64 0, .int .i64 0] 28)).trans (q5.below _)); have L5 : Hid (Below w.heap.size w w5) := Lib.hid (L4.out.trans (B45.out.mono L4.out.size)); have y0 : w5.cell? ⟨w3.heap.size, 0, none⟩ = some (.int .i64 0) := T35.out.cell (i := 0) rfl; have y1 : w5.cell? ⟨w3.heap.size, 1, none⟩ = some (.int .i64 0) := T35.out.cell (i := 1) rfl; have y2 : w5.cell? ⟨w3.heap.size, 2, none⟩ = some (.int .i64 0) := T35.out.cell (i := 2) rfl; have y3 : w5.cell? ⟨w3.heap.size, 3, none⟩ = some (.int .i64 0) := T35.out.cell (i := 3) rfl; have z0 : w5.cell? ⟨w4.heap.size, 0, none⟩ = some (.int .i64 0) := T45.out.cell (i := 0) rfl; have z1 : w5.cell? ⟨w4.heap.size, 1, none⟩ = some (.int .i64 0) := T45.out.cell (i := 1) rfl; have z2 : w5.cell? ⟨w4.heap.size, 2, none⟩ = some (.int .i64 0) := T45.out.cell (i := 2) rfl; have z3 : w5.cell? ⟨w4.heap.size, 3, none⟩ = some (.int .i64 0) := T45.out.cell (i := 3) rfl; clear q5; have B35 := B34.out.trans (B45.out.mono B34.out.size); obtain ⟨lb, lo, rfl, hlb, hlc⟩ := ints_at S3.out (by omega); have hlast5 : w5.cell? ⟨lb, lo + A', none⟩ = some (.int .i64 (m : Int)) := (B35.cell (p := ⟨lb, lo + A', none⟩) hlb).trans (hlc A' (m : Int) (by rw [List.getElem?_map, Hlast.out]; rfl)); have Hlc := Lib.hid hlc; clear hlc B35))
      rotate_left
      · go_ret
        exact ⟨rfl, L2.out⟩
      have B35 := Lib.hid (B34.out.trans (B45.out.mono B34.out.size))
      have S5l := Lib.hid ((S3.out.below B35.out).more B35.out.size)
      have S5r := Lib.hid ((S4.out.below B45.out).more B45.out.size)
      have Hlc5 := Lib.hid (fun (k kk : Nat) (h : cl[k]? = some kk) => (B35.out.cell (p := ⟨lb, lo + k, none⟩) hlb).trans (Hlc.out k (kk : Int) (by rw [List.getElem?_map, h]; rfl)))
      have HPl := Lib.hid (fun m W (q : Quiet w5 W) => z_place m W w5 S5l.out (q.below _))
      have HPr := Lib.hid (fun m W (q : Quiet w5 W) => z_place m W w5 S5r.out (q.below _))
      have HF := Lib.hid (fun s W (q : Quiet w5 W) => z_find s W w Hs.out (L5.out.trans ((q.below _).mono L5.out.size)))
      have Hs5 := Lib.hid (Hs.out.at_world L5.out L5.out.size)
      have HU := Lib.hid (fun (kk : Nat) (l : Language) (h1 : kk ∈ cl) (h2 : kk ≠ m) (h3 : ls[kk]? = some l) W (q : Quiet w5 W) => z_used l.name W w5 Hs5.out S5l.out (q.below _) Hmem.out (by
        obtain ⟨j, x, s, l', g1, g2, g3, g4, g5⟩ := Husd.out kk h1 h2
        rw [h3] at g4
        injection g4 with g4
        subst g4
        rw [g5]
        exact ⟨j, g1, x, g2, g3⟩))
      clear y0 y1 y2 y3 z0 z1 z2 z3 hlast5 B34 B45 T3 T35 T45 S3 S4 HC HO HFn HA HG Hlc Hs5
      go_loopw [10, 11, 12] (fun j _ _ wr => ∃ k : Nat, k ≤ A' + 1 ∧ j = .int .i64 (k : Int) ∧ Hid (Quiet w5 wr)) (fun j _ _ _ => A' + 1 - (intOf j).toNat)
      case atStart => exact ⟨0, Nat.zero_le _, rfl, Quiet.refl _⟩
      case round =>
        obtain ⟨k, hk, rfl, hq⟩ := hrel
        have Hq := hq
        clear hq
        by_cases hlt : k < A' + 1
        · have dlt : decide ((k : Int) < (A' : Int) + 1) = true := by simp; omega
          by_cases hk0 : k = 0
          · have dk : decide (0 < (k : Int)) = false := by simp; omega
            have dk2 : decide (0 < k) = false := by simp; omega
            clear hk0
            obtain ⟨kk, hkk⟩ := get_some Hcn.out hlt
            have hkm := List.mem_iff_getElem?.2 ⟨k, hkk⟩
            have hkl := Hmem.out kk hkm
            obtain ⟨l, hl⟩ := get_some rfl hkl
            obtain ⟨b, off, x, rfl, hbB, hxl, ⟨v1, v2, v3, v4, v5, v6, rfl, su, _⟩, hx⟩ := (Hs.out.same_base L5.out).at_ hl
            obtain ⟨um, hum⟩ : ∃ m, l.uses.length = m := ⟨_, rfl⟩
            obtain ⟨ua, uc, rfl⟩ : ∃ a c, v1 = .slice a um c := by obtain ⟨a, c, h, _⟩ := su.form; exact ⟨a, c, by rw [h, hum]⟩
            have hm63 : um ≤ 9223372036854775807 := by have := su.caps; unfold maxLen at this; omega
            have x0 : w5.cell? ⟨b, off + kk * 8, none⟩ = some (.string l.name) := hx 0 _ rfl
            have g2 : w5.cell? ⟨b, off + kk * 8 + 2, none⟩ = some (.slice ua um uc) := hx 2 _ rfl
            have k0w : w5.cell? ⟨lb, lo + k, none⟩ = some (.int .i64 (kk : Int)) := Hlc5.out k kk hkk
            have k0 : wr.cell? ⟨lb, lo + k, none⟩ = some (.int .i64 (kk : Int)) := by obtain ⟨z, hz⟩ := Hq.out; rw [hz]; exact k0w
            have hkl63 : kk ≤ 9223372036854775807 := by omega
            have Hkm := Lib.hid hkm
            have Hl := Lib.hid hl
            have Su := Lib.hid su
            have Hum := Lib.hid hum
            clear hkk hkm hl hx hxl su hum
            go_wp2_with fail
            go_quiet (fail)
            have HQ0 := Lib.hid (fun W (qq : Quiet w5 W) => (show W.cell? ⟨b, off + kk * 8, none⟩ = some (.string l.name) ∧ W.cell? ⟨b, off + kk * 8 + 2, none⟩ = some (.slice ua um uc) ∧ W.cell? ⟨lb, lo + k, none⟩ = some (.int .i64 (kk : Int)) by obtain ⟨z, rfl⟩ := qq; exact ⟨x0, g2, k0w⟩))
            generalize hwo : World.drewN wr _ = wo
            have Qo : Hid (Quiet w5 wo) := Lib.hid (by rw [← hwo]; exact Hq.out.drewN _)
            obtain ⟨r0, r2, rk⟩ := HQ0.out wo Qo.out
            clear hwo
            go_wp2_with fail
            go_hide hQ2
            go_loopw [12] (fun j wr => ∃ q : Nat, q ≤ um ∧ j = .int .i64 (q : Int) ∧ Hid (Quiet w5 wr)) (fun j _ => um - (intOf j).toNat)
            case atStart => exact ⟨0, Nat.zero_le _, rfl, Qo⟩
            case round =>
              clear r0 r2 rk
              obtain ⟨q, hq, rfl, hqq⟩ := hrel
              have Hqq := hqq
              obtain ⟨r0, r2, rk⟩ := HQ0.out wr hqq.out
              clear hqq
              by_cases hqm : q < um
              · obtain ⟨s, hsk⟩ := get_some Hum.out hqm
                obtain ⟨b3, off3, x3, rfl, hb3, hxl3, ⟨rfl, _⟩, hx3⟩ := (Su.out.below (Hqq.out.below _)).at_ hsk
                have u0 := hx3 0 _ rfl
                simp only [Nat.add_zero, Nat.mul_one] at u0
                have hsl : s ∈ l.uses := List.mem_iff_getElem?.2 ⟨q, hsk⟩
                have hf0 := Hfo.out l (List.mem_iff_getElem?.2 ⟨kk, Hl.out⟩) s hsl
                obtain ⟨t, ht⟩ : ∃ t : Nat, findN ls s = (t : Int) := ⟨(findN ls s).toNat, by omega⟩
                have HFs := Lib.hid (HF.out s wr Hqq.out)
                rw [ht] at HFs
                have htc := Huse.out kk l s Hkm.out Hl.out hsl
                rw [ht, Int.toNat_natCast] at htc
                obtain ⟨jt, hjt⟩ := List.mem_iff_getElem?.1 htc
                have hpt : firstAt (fun x : Int => decide (x = (t : Int))) (cl.map fun (n : Nat) => (n : Int)) = (jt : Int) := placeN_at Hnd.out hjt
                have HPt := Lib.hid (fun W (h : Quiet w5 W) => HPl.out (t : Int) W h)
                rw [hpt] at HPt
                have dd1 : decide ((jt : Int) < 0) = false := by simp
                clear hsk hx3 hxl3 hf0 ht hsl htc hjt hpt r0 r2 rk
                go_wp2_with (first
                  | (go_at_call 12; (with_reducible refine HFs.out.mono ?_); rintro e w6 ⟨rfl, q6⟩; have Q6 : Hid (Quiet w5 w6) := Lib.hid (Hqq.out.trans q6); clear q6)
                  | (go_at_call 11; (with_reducible refine (HPt.out _ Q6.out).mono ?_); rintro e w7 ⟨rfl, q7⟩; have Q7 : Hid (Quiet w5 w7) := Lib.hid (Q6.out.trans q7); clear q7))
                go_roundw
                case rel => exact ⟨q + 1, by omega, by go_num, Q7⟩
                case measure => simp [intOf]; omega
              · have hge : um ≤ q := by omega
                clear hqm
                by_cases hkm : kk = m
                · have e1 : (((kk : Int)) != (m : Int)) = false := by rw [hkm]; simp
                  clear hkm
                  subst hQ2
                  go_wp2_with fail
                  go_roundw
                  case rel => exact ⟨k + 1, by omega, by go_num, Hqq⟩
                  case measure => simp [intOf]; omega
                · have e1 : (((kk : Int)) != (m : Int)) = true := by rw [bne_iff_ne]; omega
                  have HUk := Lib.hid (fun W (h : Quiet w5 W) => HU.out kk l Hkm.out hkm Hl.out W h)
                  clear hkm
                  subst hQ2
                  go_wp2_with (go_at_call 14; (with_reducible refine (HUk.out _ Hqq.out).mono ?_); rintro e w8 ⟨rfl, q8⟩; have Q8 : Hid (Quiet w5 w8) := Lib.hid (Hqq.out.trans q8); clear q8)
                  go_roundw
                  case rel => exact ⟨k + 1, by omega, by go_num, Q8⟩
                  case measure => simp [intOf]; omega
          · have dk : decide (0 < (k : Int)) = true := by simp; omega
            have dk2 : decide (0 < k) = true := by simp; omega
            obtain ⟨k', hk'⟩ : ∃ k', k = k' + 1 := ⟨k - 1, by omega⟩
            have Hk' := Lib.hid hk'
            clear hk0
            obtain ⟨kk, hkk⟩ := get_some Hcn.out hlt
            have hkm := List.mem_iff_getElem?.2 ⟨k, hkk⟩
            have hkl := Hmem.out kk hkm
            obtain ⟨l, hl⟩ := get_some rfl hkl
            obtain ⟨b, off, x, rfl, hbB, hxl, ⟨v1, v2, v3, v4, v5, v6, rfl, su, _⟩, hx⟩ := (Hs.out.same_base L5.out).at_ hl
            obtain ⟨um, hum⟩ : ∃ m, l.uses.length = m := ⟨_, rfl⟩
            obtain ⟨ua, uc, rfl⟩ : ∃ a c, v1 = .slice a um c := by obtain ⟨a, c, h, _⟩ := su.form; exact ⟨a, c, by rw [h, hum]⟩
            have hm63 : um ≤ 9223372036854775807 := by have := su.caps; unfold maxLen at this; omega
            have x0 : w5.cell? ⟨b, off + kk * 8, none⟩ = some (.string l.name) := hx 0 _ rfl
            have g2 : w5.cell? ⟨b, off + kk * 8 + 2, none⟩ = some (.slice ua um uc) := hx 2 _ rfl
            have k0w : w5.cell? ⟨lb, lo + k, none⟩ = some (.int .i64 (kk : Int)) := Hlc5.out k kk hkk
            have k0 : wr.cell? ⟨lb, lo + k, none⟩ = some (.int .i64 (kk : Int)) := by obtain ⟨z, hz⟩ := Hq.out; rw [hz]; exact k0w
            have hkl63 : kk ≤ 9223372036854775807 := by omega
            have Hkm := Lib.hid hkm
            have Hl := Lib.hid hl
            have Su := Lib.hid su
            have Hum := Lib.hid hum
            obtain ⟨pp, hpp⟩ := get_some Hcn.out (show k' < A' + 1 by omega)
            have p0w := Hlc5.out k' pp hpp
            have p0 : wr.cell? ⟨lb, lo + k', none⟩ = some (.int .i64 (pp : Int)) := by obtain ⟨z, hz⟩ := Hq.out; rw [hz]; exact p0w
            have hord := Hord.out k' pp kk hpp (by rw [← Hk'.out]; exact hkk)
            obtain ⟨pa, hpa⟩ : ∃ z, placeN row (pp : Int) = z := ⟨_, rfl⟩
            obtain ⟨pb, hpb⟩ : ∃ z, placeN row (kk : Int) = z := ⟨_, rfl⟩
            rw [hpa, hpb] at hord
            have HPa := Lib.hid (fun W (h : Quiet w5 W) => HPr.out (pp : Int) W h)
            have HPb := Lib.hid (fun W (h : Quiet w5 W) => HPr.out (kk : Int) W h)
            have hpa' : firstAt (fun x : Int => decide (x = (pp : Int))) (row.map fun (n : Nat) => (n : Int)) = pa := hpa
            have hpb' : firstAt (fun x : Int => decide (x = (kk : Int))) (row.map fun (n : Nat) => (n : Int)) = pb := hpb
            rw [hpa'] at HPa
            rw [hpb'] at HPb
            have k63 : k' ≤ 9223372036854775807 := by omega
            have kl' : k' < A' + 1 := by omega
            have dpq : decide (pb ≤ pa) = false := by simp; omega
            have wrapk : IntKind.i64.wrap ((k : Int) - 1) = (k' : Int) := by rw [IntKind.wrap_i64]; omega
            clear hk' hkk hkm hl hx hxl su hum hpp p0w hord hpa hpb hpa' hpb'
            go_wp2_with fail
            go_quiet (first | (go_at_call 11; with_reducible exact quiet_callv (HPa.out _ (Hq.out.drewN _))) | (go_at_call 11; with_reducible exact quiet_callv (HPb.out _ (Hq.out.drewN _))))
            have HQ0 := Lib.hid (fun W (qq : Quiet w5 W) => (show W.cell? ⟨b, off + kk * 8, none⟩ = some (.string l.name) ∧ W.cell? ⟨b, off + kk * 8 + 2, none⟩ = some (.slice ua um uc) ∧ W.cell? ⟨lb, lo + k, none⟩ = some (.int .i64 (kk : Int)) by obtain ⟨z, rfl⟩ := qq; exact ⟨x0, g2, k0w⟩))
            generalize hwo : World.drewN wr _ = wo
            have Qo : Hid (Quiet w5 wo) := Lib.hid (by rw [← hwo]; exact Hq.out.drewN _)
            obtain ⟨r0, r2, rk⟩ := HQ0.out wo Qo.out
            clear hwo
            go_wp2_with fail
            go_hide hQ2
            go_loopw [12] (fun j wr => ∃ q : Nat, q ≤ um ∧ j = .int .i64 (q : Int) ∧ Hid (Quiet w5 wr)) (fun j _ => um - (intOf j).toNat)
            case atStart => exact ⟨0, Nat.zero_le _, rfl, Qo⟩
            case round =>
              clear r0 r2 rk
              obtain ⟨q, hq, rfl, hqq⟩ := hrel
              have Hqq := hqq
              obtain ⟨r0, r2, rk⟩ := HQ0.out wr hqq.out
              clear hqq
              by_cases hqm : q < um
              · obtain ⟨s, hsk⟩ := get_some Hum.out hqm
                obtain ⟨b3, off3, x3, rfl, hb3, hxl3, ⟨rfl, _⟩, hx3⟩ := (Su.out.below (Hqq.out.below _)).at_ hsk
                have u0 := hx3 0 _ rfl
                simp only [Nat.add_zero, Nat.mul_one] at u0
                have hsl : s ∈ l.uses := List.mem_iff_getElem?.2 ⟨q, hsk⟩
                have hf0 := Hfo.out l (List.mem_iff_getElem?.2 ⟨kk, Hl.out⟩) s hsl
                obtain ⟨t, ht⟩ : ∃ t : Nat, findN ls s = (t : Int) := ⟨(findN ls s).toNat, by omega⟩
                have HFs := Lib.hid (HF.out s wr Hqq.out)
                rw [ht] at HFs
                have htc := Huse.out kk l s Hkm.out Hl.out hsl
                rw [ht, Int.toNat_natCast] at htc
                obtain ⟨jt, hjt⟩ := List.mem_iff_getElem?.1 htc
                have hpt : firstAt (fun x : Int => decide (x = (t : Int))) (cl.map fun (n : Nat) => (n : Int)) = (jt : Int) := placeN_at Hnd.out hjt
                have HPt := Lib.hid (fun W (h : Quiet w5 W) => HPl.out (t : Int) W h)
                rw [hpt] at HPt
                have dd1 : decide ((jt : Int) < 0) = false := by simp
                clear hsk hx3 hxl3 hf0 ht hsl htc hjt hpt r0 r2 rk
                go_wp2_with (first
                  | (go_at_call 12; (with_reducible refine HFs.out.mono ?_); rintro e w6 ⟨rfl, q6⟩; have Q6 : Hid (Quiet w5 w6) := Lib.hid (Hqq.out.trans q6); clear q6)
                  | (go_at_call 11; (with_reducible refine (HPt.out _ Q6.out).mono ?_); rintro e w7 ⟨rfl, q7⟩; have Q7 : Hid (Quiet w5 w7) := Lib.hid (Q6.out.trans q7); clear q7))
                go_roundw
                case rel => exact ⟨q + 1, by omega, by go_num, Q7⟩
                case measure => simp [intOf]; omega
              · have hge : um ≤ q := by omega
                clear hqm
                by_cases hkm : kk = m
                · have e1 : (((kk : Int)) != (m : Int)) = false := by rw [hkm]; simp
                  clear hkm
                  subst hQ2
                  go_wp2_with fail
                  go_roundw
                  case rel => exact ⟨k + 1, by omega, by go_num, Hqq⟩
                  case measure => simp [intOf]; omega
                · have e1 : (((kk : Int)) != (m : Int)) = true := by rw [bne_iff_ne]; omega
                  have HUk := Lib.hid (fun W (h : Quiet w5 W) => HU.out kk l Hkm.out hkm Hl.out W h)
                  clear hkm
                  subst hQ2
                  go_wp2_with (go_at_call 14; (with_reducible refine (HUk.out _ Hqq.out).mono ?_); rintro e w8 ⟨rfl, q8⟩; have Q8 : Hid (Quiet w5 w8) := Lib.hid (Hqq.out.trans q8); clear q8)
                  go_roundw
                  case rel => exact ⟨k + 1, by omega, by go_num, Q8⟩
                  case measure => simp [intOf]; omega
        · have hge : A' + 1 ≤ k := by omega
          have LE : Hid (Below w.heap.size w wr) := Lib.hid (L5.out.trans ((Hq.out.below _).mono L5.out.size))
          have dlt : decide ((k : Int) < (A' : Int) + 1) = false := by simp; omega
          clear hlt
          go_wp2_with fail
          go_ret
          exact ⟨rfl, LE.out⟩

open Go.ChangeShapes Go.WideShapes Go.ChangeAt

theorem own : ownKnob Tryz.prog.godebug = none := by kernel_rfl
theorem laidOut : laidOutB Tryz.prog = true := by kernel_rfl

set_option maxRecDepth 100000 in
theorem lifted (os : Os) (started : os.Started) (H : Type) (enc : TypeId × Value → H) :
    ReturnsInHanded {} Tryz.checked os 4 .any (Rows.modulesClosedSpec.pre6 enc Tryz.prog Tryz.f4 Rows.modulesClosedRow.domain false) (Rows.modulesClosedSpec.post enc Tryz.prog Tryz.f4 false true false false) := by
  refine returnsInHanded_of_change_sized (C := Tryz.checked) own started (by kernel_rfl) Tryz.func4
    (ChangeSpec.witness6 (enc := enc) (C := Tryz.checked) false ⟨#[], #[.slice none 0 0, .string ⟨#[]⟩], []⟩ 8 (by kernel_rfl) (by kernel_rfl) (by kernel_rfl) (by kernel_rfl)) ?_
  intro W base args ds gs before hval0 hW hcnd hwt _
  have hval : ∀ (j : Nat) t v, Tryz.f4.params[j]? = some t → args[j]? = some v → Value.okWide Tryz.prog W .any base t v := hval0
  have hW' := hW
  obtain ⟨p, q, hA0, hV, rfl, hfz, hnd⟩ := hW
  have hA : DataW.TrodAll enc Tryz.prog W 0 (fun _ => true) true Tryz.f4.params.toList args.toList ds p := hA0
  rw [Tryz.params4] at hA hval hwt
  obtain ⟨v0, vs0, d0, ds0, p0, q0, hargs, rfl, rfl, h0, r0⟩ := trodAll_cons hA
  obtain ⟨v1, vs1, d1, ds1, p1, q1, rfl, rfl, rfl, h1, r1⟩ := trodAll_cons r0
  obtain ⟨rfl, rfl, rfl⟩ := trodAll_nil r1
  obtain rfl : args = #[v0, v1] := by cases args; simp_all
  obtain ⟨rfl, rfl⟩ := trodVars_none hV
  obtain ⟨sa0, sn0, sc0, rfl⟩ := okWide_slice Tryz.underlying22 (hval 0 22 v0 rfl rfl)
  obtain ⟨s1, rfl⟩ := okWide_string Tryz.underlying9 (hval 1 9 v1 rfl rfl)
  have k0 := h0
  have lt0 : ∀ x ∈ p0, x.block < W.heap.size := by obtain ⟨m, hm⟩ := k0; exact DataW.trod_lt m _ _ _ hm
  have k1 := h1
  have lt1 : ∀ x ∈ p1, x.block < W.heap.size := by obtain ⟨m, hm⟩ := k1; exact DataW.trod_lt m _ _ _ hm
  have L0 : Light Tryz.prog 22 d0 := fun n hn => by simpa using List.all_eq_true.1 hwt n (DataW.weights_mem_each (j := 0) rfl rfl n hn)
  obtain ⟨l0, X0, F0⟩ : ∃ l : List Language, SlR W W.heap.size 8 (Language.Is W W.heap.size) (.slice sa0 sn0 sc0) l ∧ Fit l.length 168 := by
    obtain ⟨fuel, hf⟩ := h0
    exact open_SlR_light (Language.Is W W.heap.size) Tryz.underlying22 (size := 8) (bytes := 168) (by kernel_rfl) (by decide) (by kernel_rfl) hf L0 (fun n x y _ h hl => open_Language h hl)
  have B1 : s1.size ≤ maxLen := by
    obtain ⟨fuel, hf⟩ := h1
    obtain ⟨s, e, _, b⟩ := DataW.trod_string Tryz.underlying9 hf
    simp [Value.cells] at e
    subst e
    exact b
  clear hA0 hval0
  have hwalk := lawCl_walk s1 B1 W X0
  refine hwalk.mono fun e W' ⟨he, bel⟩ => ?_
  subst he
  exact ⟨_, rfl, _, _, _, [], _, [], hW', trodAll_mk1 (shut_bool Tryz.underlying4 _), (trodAll_cons_mk (Below.trod laidOut (by kernel_rfl) (of_decide_eq_true (by kernel_rfl)) k0 bel lt0) (trodAll_cons_mk (Below.trod laidOut (by kernel_rfl) (of_decide_eq_true (by kernel_rfl)) k1 bel lt1) trodAll_mk0)), rfl, bel.frame _, fun h => by cases h⟩

theorem over : Rows.modulesClosedRow.holds Tryz.pinned (OpenSpec.ofChange Rows.modulesClosedSpec) :=
  OpenClaim.holds_of_wide 4 Tryz.f4 rfl rfl rfl rfl rfl rfl rfl ⟨rfl, rfl, rfl, rfl, rfl⟩ rfl rfl rfl rfl rfl (by kernel_rfl) Tryz.func4 (by kernel_rfl)
    (of_decide_eq_true (by kernel_rfl)) (by unfold Func.isWrapper; first | (rw [if_pos (by decide +kernel)]; kernel_rfl) | (rw [if_neg (by decide +kernel)]; exact ⟨rfl, rfl⟩))
    (fun os started H enc _ => lifted os started H enc)

theorem modulesClosed_holds : Rows.ModulesClosedSaid := over
#print axioms modulesClosed_holds
end Go.Proofs.YtikplcpghohklaaGreat
