/- The reference's Close: a language and all that it leans on (P24.2). -/
import Derived.Test.YtikplcpghohklaaGreatROrder
namespace Go.Proofs.YtikplcpghohklaaGreat
set_option linter.unusedSimpArgs false
set_option linter.unusedVariables false
open Go.RowKit

open Classical in
/-- what goes with a language, in the row's order -/
noncomputable def closeN (ls : List Language) (n : Nat) : List Nat := (rowN (webN ls)).filter fun k => decide (k = n ∨ Reach (webN ls) n k)
/-- how 'Close' answers -/
def ClosePost (ls : List Language) (name : ByteArray) (w : World) (e : Ending) (w' : World) : Prop :=
  (match faultN ls with
    | some f => e = .returned (.tuple #[.slice none 0 0, fltR f])
    | none => if findN ls name < 0 then e = .returned (.tuple #[.slice none 0 0, fltV (-1) 0 0 240])
      else ∃ a n c, e = .returned (.tuple #[.slice a n c, fltV 0 0 0 0]) ∧ SlR w' w'.heap.size 1 IsInt (.slice a n c) ((closeN ls (findN ls name).toNat).map fun (n : Nat) => (n : Int))) ∧ Below w.heap.size w w'
theorem fault_err {ls : List Language} {f : Flt} (h : faultN ls = some f) : ¬ f.err = 0 := by
  have key : ∀ {α : Type} (g : Nat → α → Option Flt), (∀ k x f, g k x = some f → ¬ f.err = 0) → ∀ (l : List α) (k : Nat) (f : Flt), firstF g k l = some f → ¬ f.err = 0 := by
    intro α g hg l
    induction l with
    | nil => intro k f h; cases h
    | cons x t ih =>
      intro k f h
      simp only [firstF] at h
      split at h
      · rename_i r hr
        injection h with h
        subst h
        exact hg _ _ _ hr
      · exact ih _ _ h
  unfold faultN at h
  split at h
  · injection h with h; subst h; simp
  · split at h
    · rename_i r hr
      injection h with h; subst h
      exact key _ (fun k x f hf => by unfold aloneF at hf; split at hf; cases hf; rename_i he; injection hf with hf; subst hf; exact he) _ _ _ hr
    · split at h
      · rename_i r hr
        injection h with h; subst h
        exact key _ (fun k x f hf => by unfold namedF at hf; split at hf; (injection hf with hf; subst hf; simp); cases hf) _ _ _ hr
      · split at h
        · rename_i r hr
          injection h with h; subst h
          exact key _ (fun k x f hf => key (usedG ls k) (fun i s f hf => by unfold usedG at hf; split at hf; (injection hf with hf; subst hf; simp); cases hf) _ _ _ hf) _ _ _ hr
        · exact key _ (fun k x f hf => key (ringG ls k) (fun i s f hf => by unfold ringG at hf; split at hf; (injection hf with hf; subst hf; simp); cases hf) _ _ _ hf) _ _ _ h
theorem found_ok {ls : List Language} (h : faultN ls = none) : AllFound ls ∧ ls.length ≤ 128 := by
  unfold faultN at h
  split at h
  · cases h
  · rename_i h128
    refine ⟨?_, by omega⟩
    split at h
    · cases h
    · split at h
      · cases h
      · split at h
        · cases h
        · rename_i h3
          exact found_of h3
theorem row_lt (us : Web) : ∀ (f : Nat) (row : List Nat), (∀ k ∈ row, k < us.length) → ∀ k ∈ rowR us f row, k < us.length := by
  intro f
  induction f with
  | zero => intro row h; exact h
  | succ f ih =>
    intro row h k hk
    unfold rowR at hk
    cases hn : nextN us row with
    | none => rw [hn] at hk; exact h k hk
    | some n =>
      rw [hn] at hk
      refine ih (row ++ [n]) (fun j hj => ?_) k hk
      rcases List.mem_append.1 hj with hj | hj
      · exact h j hj
      · simp at hj; subst hj; exact (nextN_out hn).1

set_option maxRecDepth 100000 in
set_option maxHeartbeats 8000000 in
theorem r_close {ls : List Language} {v : Value} (name : ByteArray) (w w0 : World) (hs : LsR w0 w0.heap.size v ls) (hw : Below w0.heap.size w0 w) :
    Calls Tryz.prog 38 #[v, .string name] w (ClosePost ls name w) := by
  obtain ⟨jI, hi, hz, hsz, hby⟩ := info_parts info_i
  have I := Lib.hid (And.intro hi (And.intro hz (And.intro hsz hby)))
  clear hi hz hsz hby
  obtain ⟨a, c, rfl⟩ : ∃ a c, v = .slice a ls.length c := by obtain ⟨a, c, h, _⟩ := hs.form; exact ⟨a, c, h⟩
  have HO := Lib.hid (fun W (hW : Below w0.heap.size w0 W) => r_order W w0 hs hW)
  have HF := Lib.hid (fun s W (h : Below w0.heap.size w0 W) => r_find s W w0 hs h)
  have HL := Lib.hid (fun (h : AllFound ls) (hle : ls.length ≤ 128) W (hW : Below w0.heap.size w0 W) => r_leans W w0 hs hW hle h)
  have Hw := Lib.hid hw
  have K0 : Hid (Kept w w.heap.size 28 #[.int .i64 0, .int .i64 0, .int .i64 0, .int .i64 0] (w.alloc (.cells #[.int .i64 0, .int .i64 0, .int .i64 0, .int .i64 0] 28))) := Lib.hid (Kept.new w _ _)
  have hB0 := Lib.hid (hw.alloc hw.size (.cells #[.int .i64 0, .int .i64 0, .int .i64 0, .int .i64 0] 28))
  clear hs hw
  cases hf : faultN ls with
  | some f =>
    obtain ⟨fl, fa, fp, fe⟩ := f
    have hfe := fault_err hf
    have Hfe := Lib.hid hf
    have ne1 : ¬ (fe : Int) = 0 := by simp only at hfe; omega
    have ne2 : ((fe : Int) != 0) = true := by simpa using ne1
    have HC : Hid (Calls Tryz.prog 72 #[.slice a ls.length c] (w.alloc (.cells #[.int .i64 0, .int .i64 0, .int .i64 0, .int .i64 0] 28)) fun e w' => e = .returned (.tuple #[.slice none 0 0, .agg #[.int .i64 (fl : Int), .int .i64 (fa : Int), .int .i64 (fp : Int), .int .i64 (fe : Int)]]) ∧ Below (w.alloc (.cells #[.int .i64 0, .int .i64 0, .int .i64 0, .int .i64 0] 28)).heap.size (w.alloc (.cells #[.int .i64 0, .int .i64 0, .int .i64 0, .int .i64 0] 28)) w') :=
      (HO.out _ hB0.out).mono fun e w' h => by unfold OrdPost at h; rw [hf] at h; exact h
    clear hf hfe
    go_enter Tryz.func38, Tryz.ntmps38
    go_wp2_with (go_at_call 72; refine HC.out.mono ?_; rintro en w1 ⟨rfl, b1⟩; have K1 : Hid (Kept w w.heap.size 28 #[.int .i64 0, .int .i64 0, .int .i64 0, .int .i64 0] w1) := Lib.hid (K0.out.step b1); have z0 : w1.cell? ⟨w.heap.size, 0, none⟩ = some (.int .i64 0) := K1.out.blk.cell rfl; have z1 : w1.cell? ⟨w.heap.size, 1, none⟩ = some (.int .i64 0) := K1.out.blk.cell rfl; have z2 : w1.cell? ⟨w.heap.size, 2, none⟩ = some (.int .i64 0) := K1.out.blk.cell rfl; have z3 : w1.cell? ⟨w.heap.size, 3, none⟩ = some (.int .i64 0) := K1.out.blk.cell rfl; have f0 := K1.out.blk.frozen 0; have f1 := K1.out.blk.frozen 1; have f2 := K1.out.blk.frozen 2; have f3 := K1.out.blk.frozen 3; have lw := K1.out.blk.lt)
    generalize hW2 : World.alloc w1 _ = W2
    have C2 : Hid (Kept w w.heap.size 28 #[.int .i64 0, .int .i64 0, .int .i64 0, .int .i64 0] W2) := Lib.hid (by rw [← hW2]; exact K1.out.alloc _)
    have B2 : Blk W2 w1.heap.size 28 #[.int .i64 (fl : Int), .int .i64 (fa : Int), .int .i64 (fp : Int), .int .i64 (fe : Int)] := by rw [← hW2]; exact Blk.new w1 _ _
    clear hW2 z0 z1 z2 z3 f0 f1 f2 f3
    have z0 : W2.cell? ⟨w.heap.size, 0, none⟩ = some (.int .i64 0) := C2.out.blk.cell rfl; have z1 : W2.cell? ⟨w.heap.size, 1, none⟩ = some (.int .i64 0) := C2.out.blk.cell rfl; have z2 : W2.cell? ⟨w.heap.size, 2, none⟩ = some (.int .i64 0) := C2.out.blk.cell rfl; have z3 : W2.cell? ⟨w.heap.size, 3, none⟩ = some (.int .i64 0) := C2.out.blk.cell rfl; have f0 := C2.out.blk.frozen 0; have f1 := C2.out.blk.frozen 1; have f2 := C2.out.blk.frozen 2; have f3 := C2.out.blk.frozen 3
    have y0 : W2.cell? ⟨w1.heap.size, 0, none⟩ = some (.int .i64 (fl : Int)) := B2.cell rfl
    have y1 : W2.cell? ⟨w1.heap.size, 1, none⟩ = some (.int .i64 (fa : Int)) := B2.cell rfl
    have y2 : W2.cell? ⟨w1.heap.size, 2, none⟩ = some (.int .i64 (fp : Int)) := B2.cell rfl
    have y3 : W2.cell? ⟨w1.heap.size, 3, none⟩ = some (.int .i64 (fe : Int)) := B2.cell rfl
    clear B2
    go_still_tail 2, mixed
    change wpList _ _ _ _ _ W2.drew
    go_wp2_with fail
    refine bodyPost_ret (v := .tuple #[.slice none 0 0, .agg #[.int .i64 (fl : Int), .int .i64 (fa : Int), .int .i64 (fp : Int), .int .i64 (fe : Int)]]) (by simp [results, Tryz.results38, go_sem, z0, z1, z2, z3]) rfl ?_
    unfold ClosePost
    rw [Hfe.out]
    exact ⟨rfl, by first | exact ((((C2.out.low.setCell (p := ⟨w.heap.size, 0, none⟩) (Nat.le_refl _) _).setCell (p := ⟨w.heap.size, 1, none⟩) (Nat.le_refl _) _).setCell (p := ⟨w.heap.size, 2, none⟩) (Nat.le_refl _) _).setCell (p := ⟨w.heap.size, 3, none⟩) (Nat.le_refl _) _) | exact (((((C2.out.low.setCell (p := ⟨w.heap.size, 0, none⟩) (Nat.le_refl _) _).setCell (p := ⟨w.heap.size, 1, none⟩) (Nat.le_refl _) _).setCell (p := ⟨w.heap.size, 2, none⟩) (Nat.le_refl _) _).setCell (p := ⟨w.heap.size, 3, none⟩) (Nat.le_refl _) _)).drew | exact ((((C2.out.low.drew.setCell (p := ⟨w.heap.size, 0, none⟩) (Nat.le_refl _) _).setCell (p := ⟨w.heap.size, 1, none⟩) (Nat.le_refl _) _).setCell (p := ⟨w.heap.size, 2, none⟩) (Nat.le_refl _) _).setCell (p := ⟨w.heap.size, 3, none⟩) (Nat.le_refl _) _)⟩
  | none =>
    obtain ⟨haf, hle⟩ := found_ok hf
    have HN := Lib.hid hf
    obtain ⟨rw_, hrw⟩ : ∃ r, rowN (webN ls) = r := ⟨_, rfl⟩
    have HC : Hid (Calls Tryz.prog 72 #[.slice a ls.length c] (w.alloc (.cells #[.int .i64 0, .int .i64 0, .int .i64 0, .int .i64 0] 28)) fun e w' => (∃ ra rc, e = .returned (.tuple #[.slice ra ls.length rc, .agg #[.int .i64 0, .int .i64 0, .int .i64 0, .int .i64 0]]) ∧ SlR w' w'.heap.size 1 IsInt (.slice ra ls.length rc) (rw_.map fun (n : Nat) => (n : Int))) ∧ Below (w.alloc (.cells #[.int .i64 0, .int .i64 0, .int .i64 0, .int .i64 0] 28)).heap.size (w.alloc (.cells #[.int .i64 0, .int .i64 0, .int .i64 0, .int .i64 0] 28)) w') :=
      (HO.out _ hB0.out).mono fun e w' h => by unfold OrdPost at h; rw [hf, hrw] at h; exact h
    have HLn := Lib.hid (fun W hW => HL.out haf hle W hW)
    have Hwl := Lib.hid (webN_len ls)
    have Hrl : Hid (∀ k ∈ rw_, k < ls.length) := by
      intro k hk
      rw [← hrw] at hk
      have := row_lt (webN ls) _ [] (fun k h => by cases h) k hk
      rw [webN_len] at this
      exact this
    obtain ⟨n, hn⟩ : ∃ n, ls.length = n := ⟨_, rfl⟩
    rw [hn] at HC HLn Hwl Hrl hle ⊢
    have Hn := Lib.hid hn
    have Hrw := Lib.hid hrw
    have HFs := Lib.hid (fun W (h : Below w0.heap.size w0 W) => HF.out name W h)
    rw [hn] at HFs
    obtain ⟨q, hq⟩ : ∃ q, findN ls name = q := ⟨_, rfl⟩
    have Hq := Lib.hid hq
    have hqlt : q < (n : Int) := by rw [← hq, ← hn]; exact findN_lt ls name
    rw [hq] at HFs
    have Hw2 := Lib.hid (Hw.out.size)
    clear hf haf hn hrw hq HO HL HF
    have ARM1 := True.intro
    by_cases hq0 : q < 0
    · have d0 : decide (q < 0) = true := by simpa using hq0
      go_enter Tryz.func38, Tryz.ntmps38
      go_wp2_with (first | (go_at_call 72; refine HC.out.mono ?_; rintro en w1 ⟨⟨ra, rc, rfl, hrow⟩, b1⟩; have K1 : Hid (Kept w w.heap.size 28 #[.int .i64 0, .int .i64 0, .int .i64 0, .int .i64 0] w1) := Lib.hid (K0.out.step b1); have lw := K1.out.blk.lt) | (go_at_call 73; with_reducible refine (HFs.out _ ((Hw.out.trans (K1.out.low.mono Hw.out.size)).alloc (Nat.le_trans Hw.out.size K1.out.low.size) _)).mono ?_; rintro en w2 ⟨rfl, qq⟩; have K2 : Hid (Kept w w.heap.size 28 #[.int .i64 0, .int .i64 0, .int .i64 0, .int .i64 0] w2) := Lib.hid ((K1.out.alloc _).step (qq.below _)); have z0 : w2.cell? ⟨w.heap.size, 0, none⟩ = some (.int .i64 0) := K2.out.blk.cell rfl; have z1 : w2.cell? ⟨w.heap.size, 1, none⟩ = some (.int .i64 0) := K2.out.blk.cell rfl; have z2 : w2.cell? ⟨w.heap.size, 2, none⟩ = some (.int .i64 0) := K2.out.blk.cell rfl; have z3 : w2.cell? ⟨w.heap.size, 3, none⟩ = some (.int .i64 0) := K2.out.blk.cell rfl; have f0 := K2.out.blk.frozen 0; have f1 := K2.out.blk.frozen 1; have f2 := K2.out.blk.frozen 2; have f3 := K2.out.blk.frozen 3; have lw2 := K2.out.blk.lt))
      refine bodyPost_ret (v := .tuple #[.slice none 0 0, .agg #[.int .i64 (-1), .int .i64 0, .int .i64 0, .int .i64 240]]) (by simp [results, Tryz.results38, go_sem, z0, z1, z2, z3]) rfl ?_
      unfold ClosePost
      rw [HN.out, Hq.out]
      refine ⟨?_, ((((K2.out.low.setCell (p := ⟨w.heap.size, 0, none⟩) (Nat.le_refl _) _).setCell (p := ⟨w.heap.size, 1, none⟩) (Nat.le_refl _) _).setCell (p := ⟨w.heap.size, 2, none⟩) (Nat.le_refl _) _).setCell (p := ⟨w.heap.size, 3, none⟩) (Nat.le_refl _) _)⟩
      simp only
      rw [if_pos hq0]
      all_goals trivial
    · obtain ⟨m, rfl⟩ : ∃ m : Nat, q = (m : Int) := ⟨q.toNat, by omega⟩
      have hmn : m < n := by omega
      have d0 : decide ((m : Int) < 0) = false := by simp
      go_enter Tryz.func38, Tryz.ntmps38
      go_wp2_with (first | (go_at_call 72; refine HC.out.mono ?_; rintro en w1 ⟨⟨ra, rc, rfl, hrow⟩, b1⟩; have K1 : Hid (Kept w w.heap.size 28 #[.int .i64 0, .int .i64 0, .int .i64 0, .int .i64 0] w1) := Lib.hid (K0.out.step b1); have HRow := Lib.hid hrow; have lw := K1.out.blk.lt; clear hrow) | (go_at_call 73; with_reducible refine (HFs.out _ ((Hw.out.trans (K1.out.low.mono Hw.out.size)).alloc (Nat.le_trans Hw.out.size K1.out.low.size) _)).mono ?_; rintro en w2 ⟨rfl, qq⟩; have K2 : Hid (Kept w w.heap.size 28 #[.int .i64 0, .int .i64 0, .int .i64 0, .int .i64 0] w2) := Lib.hid ((K1.out.alloc _).step (qq.below _)); have B12 : Hid (Below w1.heap.size w1 w2) := Lib.hid (((Below.refl _ _).alloc (Nat.le_refl _) _).trans (qq.below _)); clear qq) | (go_at_call 74; refine (HLn.out _ (Hw.out.trans (K2.out.low.mono Hw.out.size))).mono ?_; rintro en w3 ⟨rfl, Zm, hM, hMt⟩; have K3 : Hid (Kept w w.heap.size 28 #[.int .i64 0, .int .i64 0, .int .i64 0, .int .i64 0] w3) := Lib.hid (K2.out.step hM.low); have HM := Lib.hid hM; have HMt := Lib.hid hMt; have B13 : Hid (Below w1.heap.size w1 w3) := Lib.hid (B12.out.trans (hM.low.mono B12.out.size)); clear hM hMt))
      have HZr : Hid (∀ a b, Zm a b = true ↔ Reach (webN ls) a b) := by
        have h := HMt.out
        rw [← Hwl.out] at h
        exact fun a b => h.whole a b
      have HZc : Hid (∀ W, Below w3.heap.size w3 W → ∀ a b, a < n → b < n → W.cell? ⟨w2.heap.size, a, none⟩ = some (.slice (some ⟨w2.heap.size + 1 + a, 0, none⟩) n n) ∧ W.cell? ⟨w2.heap.size + 1 + a, b, none⟩ = some (.bool (Zm a b))) := by
        intro W hW a b ha hb
        refine ⟨?_, ?_⟩
        · rw [hW.cell (p := ⟨w2.heap.size, a, none⟩) (by have := HM.out.size; show w2.heap.size < _; omega)]; exact HM.out.topc ha (Nat.le_refl _)
        · rw [hW.cell (p := ⟨w2.heap.size + 1 + a, b, none⟩) (by have := HM.out.size; show w2.heap.size + 1 + a < _; omega)]; exact HM.out.cell ha hb
      have HR3 : Hid (SlR w3 w3.heap.size 1 IsInt (.slice ra n rc) (rw_.map fun (n : Nat) => (n : Int))) := Lib.hid ((HRow.out.below B13.out).more B13.out.size)
      have Hrn : Hid (rw_.length = n) := by have := HRow.out.len; rw [List.length_map] at this; exact this.symm
      have hpd : ∃ p : Nat → Bool, ∀ k, p k = true ↔ (k = m ∨ Reach (webN ls) m k) := ⟨fun k => decide (k = m) || Zm m k, fun k => by rw [Bool.or_eq_true, decide_eq_true_iff, HZr.out]⟩
      obtain ⟨p, hp⟩ := hpd
      have HP : Hid (∀ k, p k = (decide (k = m) || Zm m k)) := by
        intro k
        rw [Bool.eq_iff_iff, hp k, Bool.or_eq_true, decide_eq_true_iff, HZr.out]
      have Hcl : Hid (closeN ls m = rw_.filter p) := by
        show _ = _
        unfold closeN
        rw [Hrw.out]
        refine List.filter_congr fun k _ => ?_
        by_cases h : k = m ∨ Reach (webN ls) m k
        · rw [(hp k).2 h]; simp [h]
        · rw [Bool.eq_false_iff.2 (fun e => h ((hp k).1 e))]; simp [h]
      clear hp HMt HM K1 B12 HRow lw
      have lw3 : Hid (w.heap.size < w3.heap.size) := K3.out.blk.lt
      go_loopw [10, 11] (fun ov j wr => ∃ (i : Nat) (oa : Option Addr) (ol oc : Nat), i ≤ n ∧ j = .int .i64 (i : Int) ∧ ov = .slice oa ol oc ∧ ol = ((rw_.take i).filter p).length ∧ ol ≤ i ∧ Hid (Own1 wr w3.heap.size 3 1 IsInt (.slice oa ol oc) (((rw_.take i).filter p).map fun (n : Nat) => (n : Int))) ∧ Hid (Kept w w.heap.size 28 #[.int .i64 0, .int .i64 0, .int .i64 0, .int .i64 0] wr) ∧ Hid (Below w3.heap.size w3 wr)) (fun _ j _ => n - (intOf j).toNat)
      case atStart => exact ⟨0, none, 0, 0, Nat.zero_le _, rfl, rfl, by simp, Nat.le_refl _, Lib.hid ⟨[], World.ownsRow_nil _ _ _ _, by rw [List.take_zero]; exact FlatR.nil_⟩, K3, Below.refl _ _⟩
      case round =>
        obtain ⟨i, oa, ol, oc, hi, rfl, rfl, hol, hoi, hO, hK, hB⟩ := hrel
        have Hol := Lib.hid hol
        clear hol
        by_cases hlt : i < n
        · obtain ⟨k, hk⟩ := get_some Hrn.out hlt
          obtain ⟨b, off, x, rfl, hbB, hxl, ⟨rfl, hwf⟩, hx⟩ := HR3.out.at_ (show (rw_.map fun (n : Nat) => (n : Int))[i]? = some (k : Int) by rw [List.getElem?_map, hk]; rfl)
          have x0 : wr.cell? ⟨b, off + i, none⟩ = some (.int .i64 (k : Int)) := (hB.out.cell (p := ⟨b, off + i, none⟩) hbB).trans (by have := hx 0 _ rfl; simpa using this)
          have hkn : k < n := Hrl.out k (List.mem_iff_getElem?.2 ⟨i, hk⟩)
          obtain ⟨t1, t2⟩ := HZc.out wr hB.out m k hmn hkn
          have htk : rw_.take (i + 1) = rw_.take i ++ [k] := by rw [List.take_add_one, hk]; rfl
          have Htk := Lib.hid htk
          have HPk := Lib.hid (HP.out k)
          have Hwf := Lib.hid hwf
          have hwr3 := hB.out.size
          have hl3 := lw3.out
          clear hk hx hxl htk hwf
          by_cases hpk : p k = true
          · have HOn : Hid ((((rw_.take (i + 1)).filter p).map fun (n : Nat) => (n : Int)) = (((rw_.take i).filter p).map fun (n : Nat) => (n : Int)) ++ [(k : Int)]) := by
              show _ = _
              rw [Htk.out, List.filter_append, List.map_append]
              simp [hpk]
            have HLn2 : Hid (ol + 1 = ((rw_.take (i + 1)).filter p).length) := by
              show _ = _
              rw [Htk.out, List.filter_append, List.length_append, ← Hol.out]
              simp [hpk]
            have HLm : Hid ((((rw_.take i).filter p).map fun (n : Nat) => (n : Int)).length = ol) := by show _ = _; rw [List.length_map]; exact Hol.out.symm
            have APP := True.intro
            have hcase : (k = m ∧ ((k : Int) == (m : Int)) = true) ∨ (¬ k = m ∧ ((k : Int) == (m : Int)) = false ∧ Zm m k = true) := by
              by_cases e : k = m
              · exact .inl ⟨e, by simp [e]⟩
              · refine .inr ⟨e, by simp; omega, ?_⟩
                have := HPk.out
                rw [hpk, decide_eq_false e, Bool.false_or] at this
                exact this.symm
            clear hpk
            rcases hcase with ⟨rfl, e1⟩ | ⟨_, e1, e2⟩
            · go_wp2_with fail
              go_quiet (fail)
              go_wp2_with (first | (at_builtin; go_must (refine wpList_append_list rfl (.tmp 53) (.tmp 58) _ rfl w3.heap.size _ 3 jI _ 1 8 Tryz.underlying25 I.out.1 I.out.2.1 I.out.2.2.1 I.out.2.2.2 rfl (by omega) (R := IsInt) (l := ((rw_.take i).filter p).map fun (n : Nat) => (n : Int)) (m := [(k : Int)]) (.slice oa ol oc) rfl (by exact (hO.out.below (below_drewN (Below.refl _ _) _) (Nat.le_refl _)).alloc _) (some ⟨wr.heap.size, 0, none⟩) 1 1 rfl (by exact SlR.new1 rfl rfl ⟨rfl, Hwf.out⟩) (ol + 1) (by rw [HLm.out]) IsInt.one (by rw [HLm.out]; unfold maxLen; omega) (by rw [HLm.out]; omega) (by simp; exact Nat.le_succ_of_le hwr3) ?_); intro xa xc w9 hown hgr; have O9 : Hid (Own1 w9 w3.heap.size 3 1 IsInt (.slice xa (ol + 1) xc) (((rw_.take (i + 1)).filter p).map fun (n : Nat) => (n : Int))) := Lib.hid (by rw [HOn.out]; exact hown); have hOa := (hO.out.below (below_drewN (Below.refl _ wr) 1) (Nat.le_refl _)); have hne : ∀ g, (Value.slice oa ol oc).ownBlock = some g → w3.heap.size ≤ g := fun g hg => (hO.out.block g hg).1; have Bs := (hB.out.alloc hwr3 (.cells #[.int .i64 (k : Int)] 3)); have B9 : Hid (Below w3.heap.size w3 w9) := Lib.hid (by refine Below.grown (w := (World.alloc (World.drewN wr _) _)) ?_ hgr (by simp; exact Nat.le_succ_of_le hwr3) hne; exact (below_drewN hB.out _).alloc hwr3 _); have K9 : Hid (Kept w w.heap.size 28 #[.int .i64 0, .int .i64 0, .int .i64 0, .int .i64 0] w9) := Lib.hid (K3.out.step B9.out); clear hown hgr hOa hne Bs))
              go_roundw
              case rel => exact ⟨i + 1, xa, ol + 1, xc, by omega, by go_num, rfl, HLn2.out, by omega, O9, K9, B9⟩
              case measure => simp [intOf]; omega
            · rw [e2] at t2
              clear e2
              go_wp2_with fail
              go_quiet (fail)
              go_wp2_with (first | (at_builtin; go_must (refine wpList_append_list rfl (.tmp 53) (.tmp 58) _ rfl w3.heap.size _ 3 jI _ 1 8 Tryz.underlying25 I.out.1 I.out.2.1 I.out.2.2.1 I.out.2.2.2 rfl (by omega) (R := IsInt) (l := ((rw_.take i).filter p).map fun (n : Nat) => (n : Int)) (m := [(k : Int)]) (.slice oa ol oc) rfl (by exact (hO.out.below (below_drewN (Below.refl _ _) _) (Nat.le_refl _)).alloc _) (some ⟨wr.heap.size, 0, none⟩) 1 1 rfl (by exact SlR.new1 rfl rfl ⟨rfl, Hwf.out⟩) (ol + 1) (by rw [HLm.out]) IsInt.one (by rw [HLm.out]; unfold maxLen; omega) (by rw [HLm.out]; omega) (by simp; exact Nat.le_succ_of_le hwr3) ?_); intro xa xc w9 hown hgr; have O9 : Hid (Own1 w9 w3.heap.size 3 1 IsInt (.slice xa (ol + 1) xc) (((rw_.take (i + 1)).filter p).map fun (n : Nat) => (n : Int))) := Lib.hid (by rw [HOn.out]; exact hown); have hOa := (hO.out.below (below_drewN (Below.refl _ wr) 1) (Nat.le_refl _)); have hne : ∀ g, (Value.slice oa ol oc).ownBlock = some g → w3.heap.size ≤ g := fun g hg => (hO.out.block g hg).1; have Bs := (hB.out.alloc hwr3 (.cells #[.int .i64 (k : Int)] 3)); have B9 : Hid (Below w3.heap.size w3 w9) := Lib.hid (by refine Below.grown (w := (World.alloc (World.drewN wr _) _)) ?_ hgr (by simp; exact Nat.le_succ_of_le hwr3) hne; exact (below_drewN hB.out _).alloc hwr3 _); have K9 : Hid (Kept w w.heap.size 28 #[.int .i64 0, .int .i64 0, .int .i64 0, .int .i64 0] w9) := Lib.hid (K3.out.step B9.out); clear hown hgr hOa hne Bs))
              go_roundw
              case rel => exact ⟨i + 1, xa, ol + 1, xc, by omega, by go_num, rfl, HLn2.out, by omega, O9, K9, B9⟩
              case measure => simp [intOf]; omega
          · have HOn : Hid (((rw_.take (i + 1)).filter p) = ((rw_.take i).filter p)) := by
              show _ = _
              rw [Htk.out, List.filter_append]
              simp [hpk]
            have hpk2 : p k = false := by simpa using hpk
            have h2 := HPk.out
            rw [hpk2] at h2
            have e0 : ¬ k = m := fun e => by rw [decide_eq_true e, Bool.true_or] at h2; cases h2
            have e1 : ((k : Int) == (m : Int)) = false := by simp; omega
            rw [decide_eq_false e0, Bool.false_or] at h2
            rw [← h2] at t2
            have HK := hK
            have HO := hO
            have HB := hB
            clear hpk hpk2 h2 e0 hK hO hB
            go_wp2_with fail
            go_quiet (fail)
            go_wp2_with fail
            go_roundw
            case rel => exact ⟨i + 1, oa, ol, oc, by omega, by go_num, rfl, by rw [HOn.out]; exact Hol.out, by omega, Lib.hid (by rw [HOn.out]; exact HO.out.below (below_drewN (Below.refl _ _) _) (Nat.le_refl _)), Lib.hid (HK.out.step (below_drewN (Below.refl _ _) _)), Lib.hid (below_drewN HB.out _)⟩
            case measure => simp [intOf]; omega
        · obtain rfl : n = i := by omega
          have CF := hK
          have HO := hO
          have hl3 := lw3.out
          have z0 : wr.cell? ⟨w.heap.size, 0, none⟩ = some (.int .i64 0) := CF.out.blk.cell rfl; have z1 : wr.cell? ⟨w.heap.size, 1, none⟩ = some (.int .i64 0) := CF.out.blk.cell rfl; have z2 : wr.cell? ⟨w.heap.size, 2, none⟩ = some (.int .i64 0) := CF.out.blk.cell rfl; have z3 : wr.cell? ⟨w.heap.size, 3, none⟩ = some (.int .i64 0) := CF.out.blk.cell rfl; have f0 := CF.out.blk.frozen 0; have f1 := CF.out.blk.frozen 1; have f2 := CF.out.blk.frozen 2; have f3 := CF.out.blk.frozen 3
          clear hK hO hlt
          go_wp2_with fail
          have lf := CF.out.blk.lt
          refine bodyPost_ret (v := .tuple #[.slice oa ol oc, .agg #[.int .i64 0, .int .i64 0, .int .i64 0, .int .i64 0]]) (by simp [results, Tryz.results38, go_sem, z0, z1, z2, z3]) rfl ?_
          unfold ClosePost
          rw [HN.out, Hq.out]
          refine ⟨?_, ((((CF.out.low.setCell (p := ⟨w.heap.size, 0, none⟩) (Nat.le_refl _) _).setCell (p := ⟨w.heap.size, 1, none⟩) (Nat.le_refl _) _).setCell (p := ⟨w.heap.size, 2, none⟩) (Nat.le_refl _) _).setCell (p := ⟨w.heap.size, 3, none⟩) (Nat.le_refl _) _)⟩
          simp only
          rw [if_neg (by omega)]
          refine ⟨oa, ol, oc, rfl, ?_⟩
          rw [Int.toNat_natCast, Hcl.out]
          have h9 := HO.out
          rw [List.take_of_length_le (by rw [Hrn.out]; exact Nat.le_refl _)] at h9
          exact ((((h9.setFar (p := ⟨w.heap.size, 0, none⟩) hl3 _).setFar (p := ⟨w.heap.size, 1, none⟩) hl3 _).setFar (p := ⟨w.heap.size, 2, none⟩) hl3 _).setFar (p := ⟨w.heap.size, 3, none⟩) hl3 _).read (by omega)
end Go.Proofs.YtikplcpghohklaaGreat
