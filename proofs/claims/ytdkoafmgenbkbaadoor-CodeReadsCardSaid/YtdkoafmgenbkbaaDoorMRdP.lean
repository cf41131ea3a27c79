/- Chapter 11: how lines of code are read, in plain words; the document's reading of a line is the same. Chapter 11: names.Int; the library's variables. -/
import Derived.Test.YtdkoafmgenbkbaaDoorCodeTell
import Derived.Test.YtdkoafmgenbkbaaDoorMUnq
import Derived.Lib.CutLaws
import Derived.Lib.SlicesS
import Derived.Test.YtdkoafmgenbkbaaDoorShow
namespace Go.Proofs.YtdkoafmgenbkbaaDoor
set_option linter.unusedSimpArgs false
set_option linter.unusedVariables false
open Go.RowKit

/-- what lies ahead of the first c, behind it, and is there one -/
def aheadC (c : Nat) (l : List Nat) : List Nat := l.takeWhile (fun n => n != c)
def behindC (c : Nat) (l : List Nat) : List Nat := (l.dropWhile (fun n => n != c)).drop 1
theorem cut_one (c : UInt8) : ∀ l : List UInt8, Lib.cut l [c] = (l.takeWhile (fun n => n != c), (l.dropWhile (fun n => n != c)).drop 1, l.contains c)
  | [] => by simp [Lib.cut, Lib.index]
  | b :: l => by
    have ih := cut_one c l
    have hge := Lib.index_ge l [c]
    by_cases hb : b = c
    · subst hb
      simp [Lib.cut, Lib.index, List.isPrefixOf]
    · have hb' : (c == b) = false := by simpa using fun e => hb e.symm
      have hb2 : (b != c) = true := by simpa using hb
      have hi : Lib.index (b :: l) [c] = if Lib.index l [c] == -1 then -1 else Lib.index l [c] + 1 := by
        rw [Lib.index]
        simp [List.isPrefixOf, hb']
      have hct : (b :: l).contains c = l.contains c := by rw [List.contains_cons, hb', Bool.false_or]
      rw [List.takeWhile_cons_of_pos (p := fun n => n != c) hb2, List.dropWhile_cons_of_pos (p := fun n => n != c) hb2, hct]
      unfold Lib.cut at ih ⊢
      by_cases hm : Lib.index l [c] = -1
      · have hi2 : Lib.index (b :: l) [c] = -1 := by rw [hi, hm]; rfl
        rw [hm, if_neg (by decide)] at ih
        have e1 := congrArg Prod.fst ih
        have e2 := congrArg (fun x => x.2.1) ih
        have e3 := congrArg (fun x => x.2.2) ih
        simp only at e1 e2 e3
        rw [← e1, ← e2, ← e3, hi2, if_neg (by decide)]
      · have h0 : 0 ≤ Lib.index l [c] := by omega
        rw [if_pos h0] at ih
        have e1 := congrArg Prod.fst ih
        have e2 := congrArg (fun x => x.2.1) ih
        have e3 := congrArg (fun x => x.2.2) ih
        simp only at e1 e2 e3
        have hm' : (Lib.index l [c] == -1) = false := by simpa using hm
        have hi2 : Lib.index (b :: l) [c] = Lib.index l [c] + 1 := by rw [hi, hm']; rfl
        have hn : (Lib.index l [c] + 1).toNat = (Lib.index l [c]).toNat + 1 := by omega
        rw [← e1, ← e2, ← e3, hi2, if_pos (by omega), hn]
        simp [Nat.add_right_comm]
theorem toNat_ne (c : UInt8) (n : Nat) (hc : c.toNat = n) (b : UInt8) : (b.toNat != n) = (b != c) := by
  subst hc
  by_cases h : b = c
  · subst h; simp
  · have h0 : b.toNat ≠ c.toNat := fun e => h (UInt8.toNat_inj.1 e)
    have h1 : (b.toNat != c.toNat) = true := by simpa using h0
    have h2 : (b != c) = true := by simpa using h
    rw [h1, h2]
theorem map_takeW (c : UInt8) : ∀ l : List UInt8, (l.map UInt8.toNat).takeWhile (fun n => n != c.toNat) = (l.takeWhile (fun n => n != c)).map UInt8.toNat
  | [] => rfl
  | b :: l => by
    have h := toNat_ne c _ rfl b
    rw [List.map_cons, List.takeWhile_cons, List.takeWhile_cons]
    rw [h]
    cases (b != c) with
    | true => simp only [if_true, List.map_cons, map_takeW c l]
    | false => rfl
theorem map_dropW (c : UInt8) : ∀ l : List UInt8, (l.map UInt8.toNat).dropWhile (fun n => n != c.toNat) = (l.dropWhile (fun n => n != c)).map UInt8.toNat
  | [] => rfl
  | b :: l => by
    have h := toNat_ne c _ rfl b
    rw [List.map_cons, List.dropWhile_cons, List.dropWhile_cons]
    rw [h]
    cases (b != c) with
    | true => simp only [if_true, map_dropW c l]
    | false => rfl
theorem mk_txt (l : List UInt8) : (⟨l.toArray⟩ : ByteArray) = txt (l.map UInt8.toNat) := by
  have := txt_bs ⟨l.toArray⟩
  rw [← this]
  simp [bs]
theorem cut_txt (s : ByteArray) (c : UInt8) :
    (⟨(Lib.cut s.data.toList [c]).1.toArray⟩ : ByteArray) = txt (aheadC c.toNat (bs s)) ∧ (⟨(Lib.cut s.data.toList [c]).2.1.toArray⟩ : ByteArray) = txt (behindC c.toNat (bs s)) ∧ (Lib.cut s.data.toList [c]).2.2 = (bs s).contains c.toNat := by
  rw [cut_one]
  refine ⟨?_, ?_, ?_⟩
  · rw [mk_txt, ← map_takeW]; rfl
  · rw [mk_txt, List.map_drop, ← map_dropW]; rfl
  · unfold bs
    rw [Bool.eq_iff_iff]
    simp only [List.contains_iff_mem, List.mem_map]
    exact ⟨fun h => ⟨c, h, rfl⟩, fun ⟨b, hb, e⟩ => by rw [← UInt8.toNat_inj.1 e]; exact hb⟩
theorem ahead_behind {c : Nat} : ∀ {l : List Nat}, l.contains c = true → l = aheadC c l ++ c :: behindC c l
  | [], h => by simp at h
  | b :: l, h => by
    unfold aheadC behindC
    by_cases hb : b = c
    · subst hb; simp
    · have hb' : (b != c) = true := by simpa using hb
      have hct : l.contains c = true := by
        rw [List.contains_cons] at h
        have : (c == b) = false := by simpa using fun e => hb e.symm
        simpa [this] using h
      rw [List.takeWhile_cons_of_pos (p := fun n => n != c) hb', List.dropWhile_cons_of_pos (p := fun n => n != c) hb', List.cons_append]
      congr 1
      exact ahead_behind hct
theorem ahead_all {c : Nat} : ∀ {l : List Nat}, l.contains c = false → aheadC c l = l ∧ behindC c l = []
  | [], _ => ⟨rfl, rfl⟩
  | b :: l, h => by
    rw [List.contains_cons] at h
    simp only [Bool.or_eq_false_iff] at h
    have hb' : (b != c) = true := by
      have h1 := h.1
      simp only [beq_eq_false_iff_ne, ne_eq] at h1
      simp only [bne_iff_ne, ne_eq]
      exact fun e => h1 e.symm
    obtain ⟨e1, e2⟩ := ahead_all h.2
    unfold aheadC behindC at *
    rw [List.takeWhile_cons_of_pos (p := fun n => n != c) hb', List.dropWhile_cons_of_pos (p := fun n => n != c) hb', e1]
    exact ⟨rfl, e2⟩
theorem ahead_bytes {c : Nat} {l : List Nat} (h : Bytes l) : Bytes (aheadC c l) ∧ Bytes (behindC c l) :=
  ⟨fun n hn => h n (List.takeWhile_subset _ hn), fun n hn => h n ((List.dropWhile_sublist _).subset (List.mem_of_mem_drop hn))⟩
theorem ahead_len (c : Nat) (l : List Nat) : (aheadC c l).length ≤ l.length ∧ (behindC c l).length ≤ l.length ∧ (l ≠ [] → (behindC c l).length < l.length) := by
  have h1 : (aheadC c l).length ≤ l.length := (List.takeWhile_sublist _).length_le
  have h2 : (l.dropWhile (fun n => n != c)).length ≤ l.length := (List.dropWhile_sublist _).length_le
  refine ⟨h1, ?_, fun hl => ?_⟩
  · unfold behindC; rw [List.length_drop]; omega
  · have : 0 < l.length := List.length_pos_iff.2 hl
    unfold behindC; rw [List.length_drop]; omega
theorem ahead_not (c : Nat) : ∀ l : List Nat, (aheadC c l).contains c = false
  | [] => rfl
  | b :: l => by
    unfold aheadC
    by_cases hb : b = c
    · subst hb; simp
    · have hb' : (b != c) = true := by simpa using hb
      rw [List.takeWhile_cons_of_pos (p := fun n => n != c) hb', List.contains_cons]
      have h1 : (c == b) = false := by simpa using fun e => hb e.symm
      rw [h1, Bool.false_or]
      exact ahead_not c l

/-- the Op of a word, or at most 0 -/
def opN (w : ByteArray) : Int := Lib.idxOfS wordsC w
theorem idx_at (x : ByteArray) : ∀ (zs : List ByteArray) (i : Nat), Lib.idxFromS zs x i = -1 ∨ ∃ k, k < zs.length ∧ Lib.idxFromS zs x i = ((i + k : Nat) : Int) ∧ zs[k]? = some x
  | [], _ => .inl rfl
  | z :: zs, i => by
    unfold Lib.idxFromS
    by_cases h : z = x
    · rw [if_pos h]; exact .inr ⟨0, by simp, by simp, by simp [h]⟩
    · rw [if_neg h]
      rcases idx_at x zs (i + 1) with h1 | ⟨k, h1, h2, h3⟩
      · exact .inl h1
      · exact .inr ⟨k + 1, by simpa using h1, by rw [h2]; congr 1; omega, by simpa using h3⟩
theorem op_word {w : ByteArray} (h : 1 ≤ opN w) : opN w ≤ 40 ∧ wordC (opN w) = w := by
  rcases idx_at w wordsC 0 with h1 | ⟨k, h1, h2, h3⟩
  · unfold opN Lib.idxOfS at h; omega
  · have hk : k < 41 := h1
    have e : opN w = (k : Int) := by unfold opN Lib.idxOfS; rw [h2]; simp
    rw [e] at h ⊢
    refine ⟨by omega, ?_⟩
    unfold wordC
    rw [if_pos (by omega), Int.toNat_natCast, h3]
    rfl
theorem op_of (k : Int) (h1 : 1 ≤ k) (h2 : k ≤ 40) : opN (wordC k) = k := by
  rcases (by omega : k = 1 ∨ k = 2 ∨ k = 3 ∨ k = 4 ∨ k = 5 ∨ k = 6 ∨ k = 7 ∨ k = 8 ∨ k = 9 ∨ k = 10 ∨ k = 11 ∨ k = 12 ∨ k = 13 ∨ k = 14 ∨ k = 15 ∨ k = 16 ∨ k = 17 ∨ k = 18 ∨ k = 19 ∨ k = 20 ∨ k = 21 ∨ k = 22 ∨ k = 23 ∨ k = 24 ∨ k = 25 ∨ k = 26 ∨ k = 27 ∨ k = 28 ∨ k = 29 ∨ k = 30 ∨ k = 31 ∨ k = 32 ∨ k = 33 ∨ k = 34 ∨ k = 35 ∨ k = 36 ∨ k = 37 ∨ k = 38 ∨ k = 39 ∨ k = 40) with rfl | rfl | rfl | rfl | rfl | rfl | rfl | rfl | rfl | rfl | rfl | rfl | rfl | rfl | rfl | rfl | rfl | rfl | rfl | rfl | rfl | rfl | rfl | rfl | rfl | rfl | rfl | rfl | rfl | rfl | rfl | rfl | rfl | rfl | rfl | rfl | rfl | rfl | rfl | rfl
  all_goals decide +kernel
theorem op_range (w : ByteArray) : -1 ≤ opN w ∧ opN w ≤ 40 := by
  rcases idx_at w wordsC 0 with h1 | ⟨k, h1, h2, h3⟩
  · unfold opN Lib.idxOfS; omega
  · have hk : k < 41 := h1
    unfold opN Lib.idxOfS
    rw [h2]
    omega

/-- what an instruction's line is read as, by its word and its rest -/
def putN (op : Int) (rest : List Nat) : Option Ins :=
  match hasN op with
  | 0 => some ⟨op, 0, 0, ⟨#[]⟩⟩
  | 2 => (intN rest).map fun n => ⟨op, 0, n, ⟨#[]⟩⟩
  | 3 => if (unquoteN rest 0).2.2 = 0 ∧ (unquoteN rest 0).2.1 = rest.length then some ⟨op, 0, 0, txt (unquoteN rest 0).1⟩ else none
  | 4 => some ⟨op, 0, 0, txt rest⟩
  | _ => (intN rest).map fun n => ⟨op, n, 0, ⟨#[]⟩⟩
/-- a line is read -/
def readN (l : List Nat) : Option Ins :=
  if 1 ≤ opN (txt (aheadC 32 l)) ∧ (l.contains 32 = true ↔ hasN (opN (txt (aheadC 32 l))) ≠ 0) then (putN (opN (txt (aheadC 32 l))) (behindC 32 l)).bind fun x => if plainN x = true then some x else none else none
/-- what the document's reading lays of it -/
def laysN (op : Int) (rest : List Nat) : Ins :=
  match hasN op with
  | 0 => ⟨op, 0, 0, ⟨#[]⟩⟩
  | 2 => ⟨op, 0, (intN rest).getD 0, ⟨#[]⟩⟩
  | 3 => ⟨op, 0, 0, txt (unquoteN rest 0).1⟩
  | 4 => ⟨op, 0, 0, txt rest⟩
  | _ => ⟨op, (intN rest).getD 0, 0, ⟨#[]⟩⟩
theorem lays_op (op : Int) (rest : List Nat) : (laysN op rest).op = op := by
  unfold laysN; split <;> rfl
theorem hasN_six (op : Int) : hasN op = 0 ∨ hasN op = 1 ∨ hasN op = 2 ∨ hasN op = 3 ∨ hasN op = 4 ∨ hasN op = 5 := by
  unfold hasN
  repeat' split
  all_goals simp
/-- an instruction's line, when it has something -/
theorem line_app {x : Ins} : lineC x = bs (wordC x.op) ++ (match hasN x.op with | 1 => 32 :: showN x.arg | 5 => 32 :: showN x.arg | 2 => 32 :: showN x.int | 3 => 32 :: quoteN (bs x.text) | 4 => 32 :: bs x.text | _ => []) := rfl
theorem word_no32 (op : Int) (h1 : 1 ≤ op) (h2 : op ≤ 40) : (bs (wordC op)).contains 32 = false := by
  rcases (by omega : op = 1 ∨ op = 2 ∨ op = 3 ∨ op = 4 ∨ op = 5 ∨ op = 6 ∨ op = 7 ∨ op = 8 ∨ op = 9 ∨ op = 10 ∨ op = 11 ∨ op = 12 ∨ op = 13 ∨ op = 14 ∨ op = 15 ∨ op = 16 ∨ op = 17 ∨ op = 18 ∨ op = 19 ∨ op = 20 ∨ op = 21 ∨ op = 22 ∨ op = 23 ∨ op = 24 ∨ op = 25 ∨ op = 26 ∨ op = 27 ∨ op = 28 ∨ op = 29 ∨ op = 30 ∨ op = 31 ∨ op = 32 ∨ op = 33 ∨ op = 34 ∨ op = 35 ∨ op = 36 ∨ op = 37 ∨ op = 38 ∨ op = 39 ∨ op = 40) with rfl | rfl | rfl | rfl | rfl | rfl | rfl | rfl | rfl | rfl | rfl | rfl | rfl | rfl | rfl | rfl | rfl | rfl | rfl | rfl | rfl | rfl | rfl | rfl | rfl | rfl | rfl | rfl | rfl | rfl | rfl | rfl | rfl | rfl | rfl | rfl | rfl | rfl | rfl | rfl
  all_goals decide +kernel
/-- the document's reading of a line is the same -/
theorem read_law {l : List Nat} (hb : Bytes l) (h1 : 1 ≤ opN (txt (aheadC 32 l))) :
    ((plainN (laysN (opN (txt (aheadC 32 l))) (behindC 32 l)) = true ∧ lineC (laysN (opN (txt (aheadC 32 l))) (behindC 32 l)) = l) → readN l = some (laysN (opN (txt (aheadC 32 l))) (behindC 32 l))) ∧
    (¬ (plainN (laysN (opN (txt (aheadC 32 l))) (behindC 32 l)) = true ∧ lineC (laysN (opN (txt (aheadC 32 l))) (behindC 32 l)) = l) → readN l = none) := by
  obtain ⟨op, hop⟩ : ∃ x, opN (txt (aheadC 32 l)) = x := ⟨_, rfl⟩
  obtain ⟨rest, hrest⟩ : ∃ x, behindC 32 l = x := ⟨_, rfl⟩
  have hw := op_word h1
  rw [hop] at h1 hw
  have hwb : bs (wordC op) = aheadC 32 l := by rw [hw.2, bs_txt (ahead_bytes hb).1]
  have hbr : Bytes rest := by rw [← hrest]; exact (ahead_bytes hb).2
  unfold readN
  rw [hop, hrest]
  -- a line without a blank
  rcases hm : l.contains 32 with _ | _
  · obtain ⟨e1, e2⟩ := ahead_all hm
    rw [e1] at hwb
    rw [e2] at hrest
    subst hrest
    by_cases h0 : hasN op = 0
    · have hx : laysN op [] = ⟨op, 0, 0, ⟨#[]⟩⟩ := by unfold laysN; simp only [h0]
      have hl : lineC ⟨op, 0, 0, ⟨#[]⟩⟩ = l := by rw [line_app]; simp only [h0]; rw [hwb, List.append_nil]
      have hp : putN op [] = some ⟨op, 0, 0, ⟨#[]⟩⟩ := by unfold putN; simp only [h0]
      rw [hx, hp, if_pos ⟨h1, by simp [h0]⟩]
      simp only [Option.bind_some, hl, and_true]
      exact ⟨fun h => by rw [if_pos h], fun h => by rw [if_neg h]⟩
    · rw [if_neg (fun h => by have := h.2.2 h0; simp at this)]
      refine ⟨fun h => ?_, fun _ => by first | rfl | trivial⟩
      exfalso
      have h3 := congrArg (fun x => x.contains 32) h.2
      simp only [hm] at h3
      rw [line_app, lays_op] at h3
      rcases hasN_six op with e | e | e | e | e | e
      · exact h0 e
      all_goals rw [e] at h3; simp at h3
  · have hl := ahead_behind hm
    rw [← hwb, hrest] at hl
    by_cases h0 : hasN op = 0
    · rw [if_neg (fun h => h.2.1 rfl h0)]
      refine ⟨fun h => ?_, fun _ => by first | rfl | trivial⟩
      exfalso
      have h3 := congrArg (fun x => x.contains 32) h.2
      simp only [hm] at h3
      rw [line_app, lays_op, h0] at h3
      have := word_no32 op h1 hw.1
      simp only [List.append_nil] at h3
      rw [this] at h3
      cases h3
    · rw [if_pos ⟨h1, ⟨fun _ => h0, fun _ => rfl⟩⟩]
      have key : ∀ y : List Nat, bs (wordC op) ++ 32 :: y = l ↔ y = rest := fun y => by
        constructor
        · intro h
          rw [hl] at h
          have := List.append_cancel_left h
          injection this
        · rintro rfl; exact hl.symm
      have bind1 : ∀ x : Ins, (plainN x = true → (some x).bind (fun x => if plainN x = true then some x else none) = some x) ∧ (¬ plainN x = true → (some x).bind (fun x => if plainN x = true then some x else none) = none) := fun x =>
        ⟨fun h => by simp [h], fun h => by simp [h]⟩
      rcases hasN_six op with e | e | e | e | e | e
      · exact absurd e h0
      · -- a count
        have hx : laysN op rest = ⟨op, (intN rest).getD 0, 0, ⟨#[]⟩⟩ := by unfold laysN; simp only [e]
        have hp : putN op rest = (intN rest).map fun n => ⟨op, n, 0, ⟨#[]⟩⟩ := by unfold putN; simp only [e]
        have hll : ∀ n, (lineC ⟨op, n, 0, ⟨#[]⟩⟩ = l ↔ showN n = rest) := fun n => by rw [line_app]; simp only [e]; exact key _
        rw [hx, hp, hll]
        cases hi : intN rest with
        | some n =>
          have h3 := (intN_some hi).2.2.1
          simp only [Option.getD_some, Option.map_some, h3, and_true]
          exact bind1 _
        | none =>
          simp only [Option.getD_none, Option.map_none, Option.bind_none]
          refine ⟨fun h => ?_, fun _ => by first | rfl | trivial⟩
          have h4 : intN (showN 0) = some 0 := intN_show (by omega) (by omega)
          rw [h.2, hi] at h4
          cases h4
      · have hx : laysN op rest = ⟨op, 0, (intN rest).getD 0, ⟨#[]⟩⟩ := by unfold laysN; simp only [e]
        have hp : putN op rest = (intN rest).map fun n => ⟨op, 0, n, ⟨#[]⟩⟩ := by unfold putN; simp only [e]
        have hll : ∀ n, (lineC ⟨op, 0, n, ⟨#[]⟩⟩ = l ↔ showN n = rest) := fun n => by rw [line_app]; simp only [e]; exact key _
        rw [hx, hp, hll]
        cases hi : intN rest with
        | some n =>
          have h3 := (intN_some hi).2.2.1
          simp only [Option.getD_some, Option.map_some, h3, and_true]
          exact bind1 _
        | none =>
          simp only [Option.getD_none, Option.map_none, Option.bind_none]
          refine ⟨fun h => ?_, fun _ => by first | rfl | trivial⟩
          have h4 : intN (showN 0) = some 0 := intN_show (by omega) (by omega)
          rw [h.2, hi] at h4
          cases h4
      · -- a text
        have hx : laysN op rest = ⟨op, 0, 0, txt (unquoteN rest 0).1⟩ := by unfold laysN; simp only [e]
        have hp : putN op rest = if (unquoteN rest 0).2.2 = 0 ∧ (unquoteN rest 0).2.1 = rest.length then some ⟨op, 0, 0, txt (unquoteN rest 0).1⟩ else none := by unfold putN; simp only [e]
        rw [hx, hp]
        rcases hu : unquoteN rest 0 with ⟨y, k, er⟩
        have hll : ∀ t, (lineC ⟨op, 0, 0, t⟩ = l ↔ quoteN (bs t) = rest) := fun t => by rw [line_app]; simp only [e]; exact key _
        rw [hll]
        simp only
        by_cases hok : er = 0 ∧ k = rest.length
        · obtain ⟨rfl, rfl⟩ := hok
          obtain ⟨k', hk, _, _, ht, hy⟩ := unquote_ok hbr hu
          have hk' : k' = rest.length := by omega
          subst hk'
          rw [List.take_length] at ht
          rw [if_pos ⟨rfl, rfl⟩, bs_txt hy]
          simp only [← ht, and_true]
          exact bind1 _
        · rw [if_neg hok]
          refine ⟨fun h => ?_, fun _ => by first | rfl | trivial⟩
          exfalso
          have hyb : Bytes (bs (txt y)) := bs_bytes _
          have h4 := unquote_quote [] (bs (txt y)) [] hyb
          simp only [List.nil_append, List.append_nil, List.length_nil] at h4
          rw [h.2] at h4
          have h5 : unquoteN rest 0 = (bs (txt y), ((0 + rest.length : Nat) : Int), 0) := h4
          rw [hu] at h5
          injection h5 with _ h5
          injection h5 with h6 h7
          exact hok ⟨h7, by rw [h6]; simp⟩
      · have hx : laysN op rest = ⟨op, 0, 0, txt rest⟩ := by unfold laysN; simp only [e]
        have hp : putN op rest = some ⟨op, 0, 0, txt rest⟩ := by unfold putN; simp only [e]
        have hll : lineC ⟨op, 0, 0, txt rest⟩ = l := by rw [line_app]; simp only [e]; rw [bs_txt hbr]; exact (key _).2 rfl
        rw [hx, hp, hll]
        simp only [and_true]
        exact bind1 _
      · have hx : laysN op rest = ⟨op, (intN rest).getD 0, 0, ⟨#[]⟩⟩ := by unfold laysN; simp only [e]
        have hp : putN op rest = (intN rest).map fun n => ⟨op, n, 0, ⟨#[]⟩⟩ := by unfold putN; simp only [e]
        have hll : ∀ n, (lineC ⟨op, n, 0, ⟨#[]⟩⟩ = l ↔ showN n = rest) := fun n => by rw [line_app]; simp only [e]; exact key _
        rw [hx, hp, hll]
        cases hi : intN rest with
        | some n =>
          have h3 := (intN_some hi).2.2.1
          simp only [Option.getD_some, Option.map_some, h3, and_true]
          exact bind1 _
        | none =>
          simp only [Option.getD_none, Option.map_none, Option.bind_none]
          refine ⟨fun h => ?_, fun _ => by first | rfl | trivial⟩
          have h4 : intN (showN 0) = some 0 := intN_show (by omega) (by omega)
          rw [h.2, hi] at h4
          cases h4
theorem read_none {l : List Nat} (h1 : ¬ 1 ≤ opN (txt (aheadC 32 l))) : readN l = none := by unfold readN; rw [if_neg (fun h => h1 h.1)]

/-- lines read, one behind the other: the instructions, or how many went ahead of one that isn't right -/
def linesN : Nat → List Nat → List Ins → List Ins ⊕ Nat
  | 0, _, out => .inl out
  | f + 1, l, out => if l = [] then .inl out else
    match readN (aheadC 10 l) with
    | some x => if l.contains 10 = true then linesN f (behindC 10 l) (out ++ [x]) else .inr out.length
    | none => .inr out.length
theorem lines_more : ∀ (f g : Nat) (l : List Nat) (out : List Ins), l.length ≤ f → l.length ≤ g → linesN f l out = linesN g l out
  | 0, g, l, out, h1, h2 => by
    have : l = [] := List.eq_nil_of_length_eq_zero (by omega)
    subst this
    cases g <;> simp [linesN]
  | f + 1, 0, l, out, h1, h2 => by
    have : l = [] := List.eq_nil_of_length_eq_zero (by omega)
    subst this
    simp [linesN]
  | f + 1, g + 1, l, out, h1, h2 => by
    unfold linesN
    by_cases hl : l = []
    · rw [if_pos hl, if_pos hl]
    · rw [if_neg hl, if_neg hl]
      have := (ahead_len 10 l).2.2 hl
      cases readN (aheadC 10 l) with
      | none => rfl
      | some x =>
        show (if _ then _ else _) = (if _ then _ else _)
        rw [lines_more f g (behindC 10 l) _ (by omega) (by omega)]
/-- a text is read -/
def parseC (l : List Nat) : List Ins × Nat × Nat :=
  if 1048576 < l.length then ([], 0, 3) else
    match linesN l.length l [] with
    | .inr k => ([], k, 110)
    | .inl c => if (rightC c).2 ≠ 0 then ([], (rightC c).1, (rightC c).2) else (c, 0, 0)
end Go.Proofs.YtdkoafmgenbkbaaDoor
namespace Go.Proofs.YtdkoafmgenbkbaaDoor
set_option linter.unusedSimpArgs false
set_option linter.unusedVariables false
open Go.RowKit

/-- the library's variables -/
def Vars (w : World) : Prop := Pow w ∧ (∃ tp p, w.var? Tryd.prog "strconv.ErrSyntax" = some #[.iface tp p]) ∧ (∃ tp p, w.var? Tryd.prog "strconv.ErrRange" = some #[.iface tp p])
theorem Vars.below {w w' : World} (h : Vars w) (hb : Below w.heap.size w w') : Vars w' := by
  obtain ⟨h1, ⟨t2, p2, h2⟩, t3, p3, h3⟩ := h
  exact ⟨h1.below hb, ⟨t2, p2, var_keep h2 hb⟩, t3, p3, var_keep h3 hb⟩
set_option maxRecDepth 100000 in
theorem int_any (s : ByteArray) (hs : s.size ≤ 281474976710656) (w : World) (hv : Vars w) : Calls Tryd.prog 62 #[.string s] w fun e w' => e = .returned (intV (intN (bs s))) ∧ Below w.heap.size w w' := by
  by_cases hlen : 20 < s.size
  · have hn : intN (bs s) = none := by
      cases h : intN (bs s) with
      | none => rfl
      | some v => have := (intN_some h).2.2.2; rw [bs_len] at this; omega
    have HN := Lib.hid hn
    clear hn
    go_enter Tryd.func62, Tryd.ntmps62
    go_wp2_with fail
    go_ret2
    exact ⟨by rw [HN.out]; rfl, Below.refl _ _⟩
  have hv1 := hv
  obtain ⟨_, ⟨t2, p2, h2⟩, t3, p3, h3⟩ := hv1
  rcases h : Lib.parseIntB 64 s.data.toList with v | _ | _
  rotate_left
  · have hn : intN (bs s) = none := by
      cases h' : intN (bs s) with
      | none => rfl
      | some v => have := (parse_of_int s v h').1; rw [h] at this; cases this
    have HN := Lib.hid hn
    have F := Lib.hid (Tryd.strconv_ParseInt_10_at64_syntax_var s hs h t2 p2 w h2)
    clear hn hv h2 h3 h
    go_enter Tryd.func62, Tryd.ntmps62
    go_wp2_with (go_at_call 81; refine F.out.mono ?_; rintro e w1 ⟨N, rfl, _, _, hb⟩)
    go_ret2
    exact ⟨by rw [HN.out]; rfl, hb⟩
  · have hn : intN (bs s) = none := by
      cases h' : intN (bs s) with
      | none => rfl
      | some v => have := (parse_of_int s v h').1; rw [h] at this; cases this
    have HN := Lib.hid hn
    have F := Lib.hid (Tryd.strconv_ParseInt_10_at64_range_var s hs h t3 p3 w h3)
    clear hn hv h2 h3 h
    go_enter Tryd.func62, Tryd.ntmps62
    go_wp2_with (go_at_call 81; refine F.out.mono ?_; rintro e w1 ⟨N, rfl, _, _, hb⟩)
    go_ret2
    exact ⟨by rw [HN.out]; rfl, hb⟩
  · have hbd := Lib.parseIntB_bounds (B := 64) h
    have hb0 : -9223372036854775808 ≤ v := by have := hbd.1; omega
    have hb1 : v ≤ 9223372036854775807 := by have := hbd.2; omega
    have F := Lib.hid (Tryd.strconv_ParseInt_10_at64_ok s (by omega) v h w)
    have G : Hid (∀ W, Below w.heap.size w W → Calls Tryd.prog 44 #[.int .i64 v] W fun e w' => e = .returned (.string (txt (showN v))) ∧ Below W.heap.size W w') := Lib.hid (fun W hW => show_any v hb0 hb1 W (hv.below hW).1)
    by_cases hx : txt (showN v) = s
    · have hn : intN (bs s) = some v := int_of_parse s v h hb0 hb1 (by rw [show_txt]; exact hx)
      have HN := Lib.hid hn
      rw [hx] at G
      clear hn hv h2 h3 h hx hbd hb0 hb1
      go_enter Tryd.func62, Tryd.ntmps62
      go_wp2_with (first
        | (go_at_call 81; refine F.out.mono ?_; rintro e w1 ⟨rfl, hw⟩
           have hb : Hid (Below w.heap.size w w1) := by
             rcases hw with rfl | ⟨t, rfl⟩
             · exact Below.refl _ _
             · exact Lib.bytesWorld_below _ _ _
           clear hw)
        | (go_at_call 44; refine (G.out _ hb.out).mono ?_; rintro e w2 ⟨rfl, hb2⟩))
      go_ret2
      exact ⟨by rw [HN.out]; rfl, hb.out.trans (hb2.mono hb.out.size)⟩
    · have hn : intN (bs s) = none := by
        cases h' : intN (bs s) with
        | none => rfl
        | some u =>
          obtain ⟨g1, g2, _⟩ := parse_of_int s u h'
          rw [h] at g1
          injection g1 with g1
          subst g1
          rw [show_txt] at g2
          exact absurd g2 hx
      have HN := Lib.hid hn
      generalize txt (showN v) = x at G hx
      have hx1 : (x.toList == s.toList) = false := by
        rw [beq_eq_false_iff_ne]
        exact fun e => hx ((toList_inj x s).1 e)
      clear hn hv h2 h3 h hbd hb0 hb1
      go_enter Tryd.func62, Tryd.ntmps62
      go_wp2_with (first
        | (go_at_call 81; refine F.out.mono ?_; rintro e w1 ⟨rfl, hw⟩
           have hb : Hid (Below w.heap.size w w1) := by
             rcases hw with rfl | ⟨t, rfl⟩
             · exact Below.refl _ _
             · exact Lib.bytesWorld_below _ _ _
           clear hw)
        | (go_at_call 44; refine (G.out _ hb.out).mono ?_; rintro e w2 ⟨rfl, hb2⟩))
      go_ret2
      exact ⟨by rw [HN.out]; rfl, hb.out.trans (hb2.mono hb.out.size)⟩

end Go.Proofs.YtdkoafmgenbkbaaDoor
