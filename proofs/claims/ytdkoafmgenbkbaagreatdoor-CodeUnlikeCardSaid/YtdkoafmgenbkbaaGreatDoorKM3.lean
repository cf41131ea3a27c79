/- - - - - - - -/
import Derived.Test.YtdkoafmgenbkbaaGreatDoorKLRdA
import Derived.Test.YtdkoafmgenbkbaaGreatDoorKM1
set_option maxRecDepth 100000
set_option maxHeartbeats 32000000
set_option linter.unusedSimpArgs false
set_option linter.unusedVariables false
namespace Go.Proofs.YtdkoafmgenbkbaaGreatDoor
open Go.RowKit
def BuiltSt (w : World) (B b : Nat) (l : List Nat) : Prop :=
  B ≤ b ∧ ∃ p v, (p = .pointer none ∨ p = .pointer (some ⟨b, 0, none⟩)) ∧ Blk w b 54 #[p, v] ∧ Own1 w B 5 1 IsByte v l
def KeptBut (b : Nat) (w w' : World) : Prop := ∀ k t cs, Blk w k t cs → t ≠ 5 → k ≠ b → Blk w' k t cs
theorem KeptBut.refl (b : Nat) (w : World) : KeptBut b w w := fun _ _ _ h _ _ => h
theorem KeptBut.trans {b : Nat} {w w' w'' : World} (h : KeptBut b w w') (k : KeptBut b w' w'') : KeptBut b w w'' := fun x t cs hb ht hx => k x t cs (h x t cs hb ht hx) ht hx
theorem own_ne {w : World} {B b size : Nat} {e T : TypeId} {α : Type} {R : List Value → α → Prop} {v : Value} {l : List α} {cs : Array Value} (h : Own1 w B e size R v l) (hb : Blk w b T cs) (hT : T ≠ e) : v.ownBlock ≠ some b := by
  obtain ⟨xs, h1, _⟩ := h
  rcases h1.2 with ⟨rfl, _⟩ | ⟨g, cap, cur, rfl, _, hg, _⟩
  · simp [Value.ownBlock]
  · intro h
    simp only [Value.ownBlock, Option.some.injEq] at h
    subst h
    unfold Blk at hb
    rw [hg] at hb
    simp only [Option.some.injEq, Obj.cells.injEq] at hb
    exact hT hb.2.1.symm
theorem Own1.setOther {α : Type} {w : World} {base size : Nat} {e : TypeId} {R : List Value → α → Prop} {v : Value} {l : List α} (h : Own1 w base e size R v l) {p : Addr} (hp : v.ownBlock ≠ some p.block) (u : Value) : Own1 (w.setCell p u) base e size R v l := by
  obtain ⟨xs, h1, h2⟩ := h
  exact ⟨xs, ownsRow_setCell_other h1 hp u, h2⟩
theorem KeptBut.of_set {b : Nat} {w : World} (i : Nat) (u : Value) : KeptBut b w (w.setCell ⟨b, i, none⟩ u) := fun _ _ _ h _ hk => h.far hk u
theorem KeptBut.of_alloc (b : Nat) (w : World) (o : Obj) : KeptBut b w (w.alloc o) := fun _ _ _ h _ _ => h.alloc o
theorem KeptBut.of_grown {b : Nat} {w w' : World} {B size : Nat} {α : Type} {R : List Value → α → Prop} {v : Value} {l : List α} (h : Own1 w B 5 size R v l) (hg : w.grownBy w' v.ownBlock) : KeptBut b w w' := fun _ _ _ hb ht _ => hb.grown hg (fun e => own_ne h hb ht e.symm)
theorem BuiltSt.new (w : World) : BuiltSt (w.alloc (.cells #[.pointer none, .slice none 0 0] 54)) w.heap.size w.heap.size [] :=
  ⟨Nat.le_refl _, _, _, .inl rfl, Blk.new w _ _, ⟨[], World.ownsRow_nil _ _ _ _, FlatR.nil_⟩⟩
theorem BuiltSt.keep {w w' : World} {B b : Nat} {l : List Nat} (h : BuiltSt w B b l) (hb : Below w.heap.size w w') : BuiltSt w' B b l := by
  obtain ⟨h1, p, v, h2, h3, h4⟩ := h
  exact ⟨h1, p, v, h2, h3.below hb h3.lt, h4.below hb zL⟩
theorem sizeBuilder : (Tryz.prog.info? 54).map (·.size) = some 2 := by kernel_rfl
theorem info_u8 : (Tryz.prog.info? 5).map (fun i => (i.zero, i.size, i.bytes)) = some (some (.int .u8 0), 1, 1) := by kernel_rfl
theorem liesBuilder : liesAt Tryz.prog Tryz.prog.depth 54 (2 / Tryz.prog.cellsOf 54) 0 54 1 = true := by kernel_rfl
theorem blk_shape {w : World} {b : Nat} {t : TypeId} {x y : Value} (h : Blk w b t #[x, y]) : w.shape? b = some (t, 2) := by
  unfold Blk at h
  simp [World.shape?, h]
theorem wpList_append_text' {P : Program} {ops : Array Oper} {rest : List Oper} {o : Oper} {a : Act} {Q : Exit → Act → World → Prop} {w : World} (hgd : o.guard = none) (sl x : Operand) (t u : TypeId)
    (ho : o.op = .call { callee := .builtin .append, args := #[sl, x], argTypes := #[t, u] })
    (base : Nat) (e : TypeId) (i : TypeInfo) (ht : P.underlying t = some (.slice e)) (hu : P.underlying u = some .string) (hi : P.info? e = some i) (hz : i.zero = some (.int .u8 0))
    (hsize : i.size = 1) (hby : i.bytes = 1)
    (v : Value) (l : List Nat) (hs : a.eval sl = v) (hown : Own1 w base e 1 IsByte v l) (s : ByteArray) (hx : a.eval x = .string s)
    (h63 : l.length + s.size ≤ maxLen) (hbytes : l.length + s.size ≤ 140737488355328) (hbase : base ≤ w.heap.size)
    (h : ∀ (a' : Option Addr) (n' c' : Nat) w', Own1 w' base e 1 IsByte (.slice a' n' c') (l ++ bs s) → w.grownBy w' v.ownBlock → wpList P ops Q rest (a.put o.dst (.slice a' n' c')) w') : wpList P ops Q (o :: rest) a w := by
  obtain ⟨xs, h1, h2⟩ := hown
  obtain ⟨rfl, hb⟩ := byteRow h2
  refine Lib.wpList_append_own_string w hgd sl x t u ho base e i ht hu hi hz hsize hby v l.length _ hs h1 s hx h63 hbytes hbase (fun v' w' g1 g2 _ => ?_)
  rw [strCells_eq, ← List.map_append] at g1
  have hl : (l ++ bs s).length = l.length + s.size := by rw [List.length_append, bs_len]
  have hown : Own1 w' base e 1 IsByte v' (l ++ bs s) := ⟨_, by rw [hl]; exact g1, byteRow_mk (bytes_app hb (bs_bytes s))⟩
  obtain ⟨a', c', rfl⟩ := hown.form
  exact h _ _ _ w' hown g2
theorem copy_check {w : World} {B b : Nat} {l : List Nat} (h : BuiltSt w B b l) :
    Calls Tryz.prog 30 #[.pointer (some ⟨b, 0, none⟩)] w fun e w' => e = .returned (.tuple #[]) ∧ (BuiltSt w' B b l ∧ Below B w w' ∧ KeptBut b w w') := by
  obtain ⟨hB, p, v, hp, hbk, hown⟩ := h
  obtain ⟨j, hj, hjs⟩ := Option.map_eq_some_iff.1 sizeBuilder
  have hsh := blk_shape hbk
  have hne := own_ne hown hbk (by decide)
  have h0 := hbk.cell (i := 0) rfl
  have f0 := hbk.frozen 0
  have HB := zH (And.intro hbk hown)
  clear hbk hown
  rcases hp with rfl | rfl
  · have hto := zH (Lib.run_to_unsafe (P := Tryz.prog) w ⟨b, 0, none⟩ Tryz.underlying51 Tryz.underlying115 hj (by rw [hjs]; decide) hsh (Nat.zero_lt_succ 1))
    have hfrom := zH (Lib.run_from_unsafe (P := Tryz.prog) w ⟨b, 0, none⟩ Tryz.underlying115 Tryz.underlying51 hj hsh liesBuilder)
    clear hsh hj
    go_enter Tryz.func30, Tryz.ntmps30
    go_wp2
    rw [hto.out]
    simp only [Result.andThen]
    rw [Oper.upon_value]
    go_wp2
    rw [run_callFunc_extern Tryz.func54 (by kernel_rfl) (by kernel_rfl) (by kernel_rfl) (e := Extern.AbiNoEscape.same) (by kernel_rfl)]
    rw [Lib.run_noEscape]
    simp only [Result.andThen]
    rw [Oper.upon_value]
    go_wp2
    rw [hfrom.out]
    simp only [Result.andThen]
    rw [Oper.upon_value]
    go_wp2
    go_end0
    exact ⟨rfl, ⟨hB, _, _, .inr rfl, HB.out.1.set_ 0 _, HB.out.2.setOther hne _⟩, (Below.refl B w).setCell (p := ⟨b, 0, none⟩) hB _, KeptBut.of_set 0 _⟩
  · have hnn := Lib.run_neq_ptr_same (P := Tryz.prog) w ⟨b, 0, none⟩ Tryz.underlying51 hj
    clear hsh hj
    go_enter Tryz.func30, Tryz.ntmps30
    go_wp2
    go_end0
    exact ⟨rfl, ⟨hB, _, _, .inr rfl, HB.out.1, HB.out.2⟩, zB, KeptBut.refl _ _⟩
theorem write_byte {w : World} {B b : Nat} {l : List Nat} (c : Nat) (hc : c < 256) (h : BuiltSt w B b l) (hlen : l.length + 1 ≤ 140737488355328) (hBw : B ≤ w.heap.size) :
    Calls Tryz.prog 81 #[.pointer (some ⟨b, 0, none⟩), .int .u8 (c : Int)] w fun e w' => e = .returned .nilIface ∧ (BuiltSt w' B b (l ++ [c]) ∧ Below B w w' ∧ KeptBut b w w') := by
  obtain ⟨j, hi, hz, hsz, hby⟩ := info_parts info_u8
  have I := zH (And.intro hi (And.intro hz (And.intro hsz hby)))
  have CC := zH (copy_check h)
  have hBb := h.1
  clear hi hz hsz hby h
  go_enter Tryz.func81, Tryz.ntmps81
  go_wp2_with (first
    | (go_at_call 30
       refine CC.out.mono ?_
       rintro e w1 ⟨rfl, hst, hb1, hk1⟩
       obtain ⟨_, p, v, hp, hbk, hown⟩ := hst
       obtain ⟨va, vc, rfl⟩ := hown.form
       have c1 := hbk.cell (i := 1) rfl
       have hlt := hbk.lt
       have hz1 := hb1.size
       have hBz : B ≤ w1.heap.size := Nat.le_trans hBw hz1
       have HB := zH (And.intro hp (And.intro hbk hown))
       have H1 := zH (And.intro hb1 hk1)
       clear hp hbk hown hb1 hk1 CC)
    | (at_builtin
       go_must (refine wpList_append_list rfl (.tmp 11) (.tmp 13) _ rfl B _ 5 j _ 1 1 Tryz.underlying52 I.out.1 I.out.2.1 I.out.2.2.1 I.out.2.2.2 rfl (by omega) (R := IsByte) (l := l) (m := [c]) (.slice va l.length vc) rfl (by exact HB.out.2.2.alloc _) (some ⟨w1.heap.size, 0, none⟩) 1 1 rfl (by exact SlR.new1 rfl rfl ⟨rfl, hc⟩) (l.length + 1) rfl IsByte.one (by unfold maxLen; omega) (by omega) (by simp; omega) ?_)
       intro xa xc w2 hown hgr
       have hb2 : Blk w2 b 54 #[p, .slice va l.length vc] := (HB.out.2.1.alloc _).grown hgr (fun e => own_ne HB.out.2.2 HB.out.2.1 (by decide) e.symm)
       have d1 := hb2.cell (i := 1) rfl
       have f1 := hb2.frozen 1
       have H2 := zH (And.intro hb2 (And.intro hown hgr))
       clear hb2 hown hgr c1 hlt))
  go_ret
  obtain ⟨hp, hbk, hown0⟩ := HB.out
  obtain ⟨hb2, hown, hgr⟩ := H2.out
  exact ⟨rfl, ⟨hBb, _, _, hp, hb2.set_ 1 _, hown.setOther (own_ne hown hb2 (by decide)) _⟩, ((H1.out.1.alloc hBz _).trans (below_of_grown (hown0.alloc _) (by simp; omega) hgr)).setCell (p := ⟨b, 1, none⟩) hBb _, ((H1.out.2.trans (KeptBut.of_alloc _ _ _)).trans (KeptBut.of_grown (hown0.alloc _) hgr)).trans (KeptBut.of_set 1 _)⟩
theorem write_text {w : World} {B b : Nat} {l : List Nat} (s : ByteArray) (h : BuiltSt w B b l) (hlen : l.length + s.size ≤ 140737488355328) (hBw : B ≤ w.heap.size) :
    Calls Tryz.prog 17 #[.pointer (some ⟨b, 0, none⟩), .string s] w fun e w' => e = .returned (.tuple #[.int .i64 s.size, .nilIface]) ∧ (BuiltSt w' B b (l ++ bs s) ∧ Below B w w' ∧ KeptBut b w w') := by
  obtain ⟨j, hi, hz, hsz, hby⟩ := info_parts info_u8
  have I := zH (And.intro hi (And.intro hz (And.intro hsz hby)))
  have CC := zH (copy_check h)
  have hBb := h.1
  clear hi hz hsz hby h
  go_enter Tryz.func17, Tryz.ntmps17
  go_wp2_with (first
    | (go_at_call 30
       refine CC.out.mono ?_
       rintro e w1 ⟨rfl, hst, hb1, hk1⟩
       obtain ⟨_, p, v, hp, hbk, hown⟩ := hst
       obtain ⟨va, vc, rfl⟩ := hown.form
       have c1 := hbk.cell (i := 1) rfl
       have hlt := hbk.lt
       have hz1 := hb1.size
       have hBz : B ≤ w1.heap.size := Nat.le_trans hBw hz1
       have HB := zH (And.intro hp (And.intro hbk hown))
       have H1 := zH (And.intro hb1 hk1)
       clear hp hbk hown hb1 hk1 CC)
    | (at_builtin
       go_must (refine wpList_append_text' rfl (.tmp 12) (.tmp 13) _ _ rfl B 5 j Tryz.underlying52 Tryz.underlying9 I.out.1 I.out.2.1 I.out.2.2.1 I.out.2.2.2 (.slice va l.length vc) l rfl (by exact HB.out.2.2) s rfl (by unfold maxLen; omega) (by omega) (by omega) ?_)
       intro xa xn xc w2 hown hgr
       have hb2 : Blk w2 b 54 #[p, .slice va l.length vc] := HB.out.2.1.grown hgr (fun e => own_ne HB.out.2.2 HB.out.2.1 (by decide) e.symm)
       have d1 := hb2.cell (i := 1) rfl
       have f1 := hb2.frozen 1
       have H2 := zH (And.intro hb2 (And.intro hown hgr))
       clear hb2 hown hgr c1 hlt))
  go_ret2
  obtain ⟨hp, hbk, hown0⟩ := HB.out
  obtain ⟨hb2, hown, hgr⟩ := H2.out
  exact ⟨rfl, ⟨hBb, _, _, hp, hb2.set_ 1 _, hown.setOther (own_ne hown hb2 (by decide)) _⟩, (H1.out.1.trans (below_of_grown hown0 (by omega) hgr)).setCell (p := ⟨b, 1, none⟩) hBb _, (H1.out.2.trans (KeptBut.of_grown hown0 hgr)).trans (KeptBut.of_set 1 _)⟩
theorem BuiltSt.lib {w : World} {B b : Nat} {l : List Nat} (h : BuiltSt w B b l) : Lib.IsBuilderF 54 5 B b (Lib.byteCells (l.map UInt8.ofNat)) w := by
  obtain ⟨hB, p, v, hp, hbk, hown⟩ := h
  have hne := own_ne hown hbk (by decide)
  obtain ⟨xs, h1, h2⟩ := hown
  obtain ⟨rfl, hb⟩ := byteRow h2
  have he : Lib.byteCells (l.map UInt8.ofNat) = l.map (fun (n : Nat) => Value.int .u8 (n : Int)) := by
    unfold Lib.byteCells
    rw [List.map_map]
    apply List.map_congr_left
    intro n hn
    have := hb n hn
    simp [Nat.mod_eq_of_lt this]
  rw [he]
  have key : Lib.BuilderAtF 54 5 B b p (l.map (fun (n : Nat) => Value.int .u8 (n : Int))) w := ⟨hB, v, hbk, by rw [List.length_map]; exact World.ownsRowF_of h1, hne⟩
  rcases hp with rfl | rfl
  · exact .inl key
  · exact .inr key
theorem built_len {w : World} {B b : Nat} {l : List Nat} (h : BuiltSt w B b l) : Calls Tryz.prog 19 #[.pointer (some ⟨b, 0, none⟩)] w fun e w' => e = .returned (.int .i64 (l.length : Int)) ∧ w' = w := by
  obtain ⟨hB, p, v, hp, hbk, hown⟩ := h
  obtain ⟨va, vc, rfl⟩ := hown.form
  have c1 := hbk.cell (i := 1) rfl
  clear hbk hown hp
  go_enter Tryz.func19, Tryz.ntmps19
  go_wp2
  go_ret
  exact ⟨rfl, rfl⟩
theorem built_text {w : World} {B b : Nat} {l : List Nat} (h : BuiltSt w B b l) (hBw : B ≤ w.heap.size) : Calls Tryz.prog 20 #[.pointer (some ⟨b, 0, none⟩)] w fun e w' => e = .returned (.string (txt l)) ∧ Below B w w' :=
  (Go.Proofs.Tryz.Builder_String_any_k B b (l.map UInt8.ofNat) w h.lib hBw).mono fun _ _ ⟨h1, _, h2, _⟩ => ⟨h1, h2⟩
theorem Own1.nil_ {α : Type} (w : World) (base : Nat) (t : TypeId) (size : Nat) (R : List Value → α → Prop) : Own1 w base t size R (.slice none 0 0) ([] : List α) := ⟨[], World.ownsRow_nil _ _ _ _, FlatR.nil_⟩
end Go.Proofs.YtdkoafmgenbkbaaGreatDoor
namespace Go.Proofs.YtdkoafmgenbkbaaGreatDoor
structure Tok where
  kind : Int
  text : List Nat
  num : Int
  place : Int
  deriving DecidableEq
def marksL : List (List Nat) := [[45, 62], [33, 33], [33, 61], [61, 61], [60, 61], [46], [35], [94], [63], [40], [41], [43], [45], [42], [60], [58]]
def wordsL : List (List Nat) := [[97, 110, 100], [97, 110, 121], [99, 111, 110, 99, 101, 112, 116], [101, 108, 115, 101], [101, 110, 100], [101, 118, 101, 114, 121], [102, 97, 108, 115, 101], [102, 105, 114, 115, 116], [105, 100], [105, 102], [105, 110], [105, 110, 116], [110, 111, 110, 101], [110, 111, 116], [111, 110, 108, 121], [111, 114], [115, 101, 108, 102], [115, 105, 122, 101], [115, 117, 109], [116, 101, 120, 116], [116, 104, 101, 110], [116, 114, 117, 101]]
def numScan : List Nat → Nat → Nat → Nat × Nat × Bool
  | [], j, n => (n, j, true)
  | c :: r, j, n => if 48 ≤ c ∧ c ≤ 57 then (if (0 < j ∧ n = 0) ∨ (9223372036854775807 - (c - 48)) / 10 < n then (0, j, false) else numScan r (j + 1) (10 * n + (c - 48))) else (n, j, !furtherN c)
def markN (r : List Nat) : List Nat × Nat := match marksL.find? (fun m => m.isPrefixOf r) with
  | some m => (m, m.length)
  | none => if r.head? = some 33 ∨ r.head? = some 61 then ([], 1) else ([], 0)
def stepP (r : List Nat) : Option (Nat × List Nat × Int) × Nat := match r with
  | [] => (none, 0)
  | c :: t =>
    if 48 ≤ c ∧ c ≤ 57 then (if (numScan (c :: t) 0 0).2.2 then (some (1, [], (numScan (c :: t) 0 0).1), (numScan (c :: t) 0 0).2.1) else (none, (numScan (c :: t) 0 0).2.1))
    else if letterN c then (if ((c :: t).takeWhile furtherN).length ≤ 32 then (some (if (c :: t).takeWhile furtherN ∈ wordsL then 4 else 3, (c :: t).takeWhile furtherN, 0), ((c :: t).takeWhile furtherN).length) else (none, 32))
    else (if (markN (c :: t)).1 = [] then (none, (markN (c :: t)).2) else (some (5, (markN (c :: t)).1, 0), (markN (c :: t)).2))
def isNumber (s : List Nat) : Option Int := match intN s with
  | some v => if 0 ≤ v then some v else none
  | none => none
def beginsN (s : List Nat) : Bool := (isNumber s).isSome || rightN s || marksL.any (fun m => s.isPrefixOf m)
def wholeN (s : List Nat) : Option (Nat × List Nat × Int) := match isNumber s with
  | some v => some (1, [], v)
  | none => if s ∈ wordsL then some (4, s, 0) else if rightN s then some (3, s, 0) else if s ∈ marksL then some (5, s, 0) else none
def lenFrom (r : List Nat) : Nat → Nat → Nat
  | 0, k => k
  | f + 1, k => if k < r.length ∧ beginsN (r.take (k + 1)) = true then lenFrom r f (k + 1) else k
def stepR (r : List Nat) : Option (Nat × List Nat × Int) × Nat :=
  match wholeN (r.take (lenFrom r r.length 0)) with
  | none => (none, lenFrom r r.length 0)
  | some (k, s, v) => if k ≠ 5 ∧ (∃ c, r[lenFrom r r.length 0]? = some c ∧ furtherN c = true) then (none, lenFrom r r.length 0) else (some (k, s, v), lenFrom r r.length 0)
theorem lenFrom_eq {r : List Nat} {n : Nat} (hn : n ≤ r.length) (h1 : ∀ j, j < n → beginsN (r.take (j + 1)) = true) (h2 : n = r.length ∨ beginsN (r.take (n + 1)) = false) : lenFrom r r.length 0 = n := by
  have key : ∀ (f k : Nat), k ≤ n → n ≤ k + f → lenFrom r f k = n := by
    intro f
    induction f with
    | zero => intro k h3 h4; simp only [lenFrom]; omega
    | succ f ih =>
      intro k h3 h4
      simp only [lenFrom]
      by_cases e : k = n
      · subst e
        rw [if_neg]
        rintro ⟨h5, h6⟩
        rcases h2 with h2 | h2
        · omega
        · rw [h2] at h6; cases h6
      · rw [if_pos ⟨by omega, h1 k (by omega)⟩]
        exact ih (k + 1) (by omega) (by omega)
  exact key r.length 0 (Nat.zero_le _) (by omega)
theorem letter_cases {c : Nat} (h : letterN c = true) : (65 ≤ c ∧ c ≤ 90) ∨ (97 ≤ c ∧ c ≤ 122) := by simpa [letterN] using h
theorem no_mark_letter {c : Nat} (h : letterN c = true) (t : List Nat) : marksL.any (fun m => (c :: t).isPrefixOf m) = false := by
  have := letter_cases h
  simp only [marksL, List.any_cons, List.any_nil, List.isPrefixOf, Bool.or_false]
  simp
  omega
theorem no_mark_digit {c : Nat} (h : 48 ≤ c ∧ c ≤ 57) (t : List Nat) : marksL.any (fun m => (c :: t).isPrefixOf m) = false := by
  simp only [marksL, List.any_cons, List.any_nil, List.isPrefixOf, Bool.or_false]
  simp
  omega
theorem no_number_letter {c : Nat} (h : letterN c = true) (t : List Nat) : isNumber (c :: t) = none := by
  have hl := letter_cases h
  unfold isNumber
  cases hi : intN (c :: t) with
  | none => rfl
  | some v =>
    exfalso
    unfold intN at hi
    rw [if_neg (by simp; omega)] at hi
    split at hi
    · cases hi
    · split at hi
      · rename_i hd
        have := hd c (by simp)
        omega
      · cases hi
theorem no_right_digit {c : Nat} (h : 48 ≤ c ∧ c ≤ 57) (t : List Nat) : rightN (c :: t) = false := by
  have : letterN c = false := by simp [letterN]; omega
  simp [rightN, this]
theorem begins_letter {c : Nat} (h : letterN c = true) (t : List Nat) : beginsN (c :: t) = rightN (c :: t) := by
  simp [beginsN, no_number_letter h, no_mark_letter h]
theorem begins_digit {c : Nat} (h : 48 ≤ c ∧ c ≤ 57) (t : List Nat) : beginsN (c :: t) = (isNumber (c :: t)).isSome := by
  simp [beginsN, no_right_digit h, no_mark_digit h]
theorem takeWhile_all {p : Nat → Bool} : ∀ (l : List Nat), (l.takeWhile p).all p = true
  | [] => rfl
  | a :: l => by
    by_cases h : p a = true
    · rw [List.takeWhile_cons, if_pos h, List.all_cons, h, takeWhile_all l]; rfl
    · rw [List.takeWhile_cons, if_neg h]; rfl
theorem takeWhile_next {p : Nat → Bool} : ∀ (l : List Nat) (c : Nat), l[(l.takeWhile p).length]? = some c → p c = false
  | [], c, h => by simp at h
  | a :: l, c, h => by
    by_cases hp : p a = true
    · rw [List.takeWhile_cons, if_pos hp] at h
      simp only [List.length_cons, List.getElem?_cons_succ] at h
      exact takeWhile_next l c h
    · rw [List.takeWhile_cons, if_neg hp] at h
      simp at h
      subst h
      simpa using hp
theorem take_of_takeWhile {p : Nat → Bool} : ∀ (l : List Nat), l.take (l.takeWhile p).length = l.takeWhile p
  | [] => rfl
  | a :: l => by
    by_cases hp : p a = true
    · rw [List.takeWhile_cons, if_pos hp, List.length_cons, List.take_succ_cons, take_of_takeWhile l]
    · rw [List.takeWhile_cons, if_neg hp]; rfl
theorem takeWhile_le {p : Nat → Bool} : ∀ (l : List Nat), (l.takeWhile p).length ≤ l.length
  | [] => Nat.le_refl _
  | a :: l => by
    by_cases hp : p a = true
    · rw [List.takeWhile_cons, if_pos hp, List.length_cons, List.length_cons]; have := takeWhile_le (p := p) l; omega
    · rw [List.takeWhile_cons, if_neg hp]; simp
theorem step_letter {c : Nat} (h : letterN c = true) (t : List Nat) : stepR (c :: t) = stepP (c :: t) := by
  have hl := letter_cases h
  have hf : furtherN c = true := by simp [furtherN, h]
  obtain ⟨run, hrun⟩ : ∃ run, (c :: t).takeWhile furtherN = run := ⟨_, rfl⟩
  have hall : run.all furtherN = true := by rw [← hrun]; exact takeWhile_all _
  have hle : run.length ≤ (c :: t).length := by rw [← hrun]; exact takeWhile_le _
  have htk : (c :: t).take run.length = run := by rw [← hrun]; exact take_of_takeWhile _
  have hrc : ∃ u, run = c :: u := ⟨t.takeWhile furtherN, by rw [← hrun, List.takeWhile_cons, if_pos hf]⟩
  obtain ⟨u, hu⟩ := hrc
  have hbeg : ∀ j, j < run.length → j < 32 → beginsN ((c :: t).take (j + 1)) = true := by
    intro j h1 h2
    have e : (c :: t).take (j + 1) = run.take (j + 1) := by rw [← htk, List.take_take, Nat.min_eq_left (by omega)]
    rw [List.take_succ_cons, begins_letter h]
    rw [← List.take_succ_cons, e, hu, List.take_succ_cons]
    simp only [rightN, Bool.and_eq_true, decide_eq_true_eq, List.length_cons]
    refine ⟨⟨by rw [List.length_take]; omega, h⟩, ?_⟩
    rw [hu, List.all_cons, Bool.and_eq_true] at hall
    rw [List.all_cons, hf, Bool.true_and, List.all_eq_true]
    rw [List.all_eq_true] at hall
    exact fun x hx => hall.2 x (List.mem_of_mem_take hx)
  have hP : stepP (c :: t) = (if run.length ≤ 32 then (some (if run ∈ wordsL then 4 else 3, run, 0), run.length) else (none, 32)) := by
    simp only [stepP]
    rw [if_neg (by omega), if_pos h, hrun]
  rw [hP]
  by_cases h32 : run.length ≤ 32
  · rw [if_pos h32]
    have hn : lenFrom (c :: t) (c :: t).length 0 = run.length := by
      refine lenFrom_eq hle (fun j hj => hbeg j hj (by omega)) ?_
      by_cases e : run.length = (c :: t).length
      · exact Or.inl e
      · right
        obtain ⟨d, hd⟩ : ∃ d, (c :: t)[run.length]? = some d := ⟨_, List.getElem?_eq_getElem (by omega)⟩
        have hnf : furtherN d = false := takeWhile_next (p := furtherN) (c :: t) d (by rw [hrun]; exact hd)
        have hk := (List.getElem?_eq_some_iff.1 hd).1
        have e2 : (c :: t).take (run.length + 1) = run ++ [d] := by
          rw [List.take_succ_eq_append_getElem hk, (List.getElem?_eq_some_iff.1 hd).2, htk]
        rw [e2, hu, List.cons_append, begins_letter h]
        simp only [rightN, List.all_cons, List.all_append, List.all_nil, hnf]
        simp
    have hright : rightN run = true := by
      rw [hu]
      rw [hu] at hall h32
      simp only [rightN, Bool.and_eq_true, decide_eq_true_eq]
      exact ⟨⟨h32, h⟩, hall⟩
    have hw : wholeN run = some (if run ∈ wordsL then 4 else 3, run, 0) := by
      unfold wholeN
      rw [hu, no_number_letter h]
      simp only
      by_cases hm : c :: u ∈ wordsL
      · rw [if_pos hm, if_pos hm]
      · rw [if_neg hm, if_neg hm, ← hu, if_pos hright]
    unfold stepR
    rw [hn, htk, hw]
    simp only
    rw [if_neg]
    rintro ⟨_, d, hd, hfd⟩
    have := takeWhile_next (p := furtherN) (c :: t) d (by rw [hrun]; exact hd)
    rw [hfd] at this
    cases this
  · rw [if_neg h32]
    have hn : lenFrom (c :: t) (c :: t).length 0 = 32 := by
      refine lenFrom_eq (by omega) (fun j hj => hbeg j (by omega) hj) (Or.inr ?_)
      rw [List.take_succ_cons, begins_letter h]
      have : ((c :: t).take (32 + 1)).length = 33 := by rw [List.length_take]; omega
      rw [List.take_succ_cons] at this
      simp only [rightN]
      rw [this]
      rfl
    obtain ⟨d, hd⟩ : ∃ d, (c :: t)[32]? = some d := ⟨_, List.getElem?_eq_getElem (by omega)⟩
    have hfd : furtherN d = true := by
      have hd' : run[32]? = some d := by
        rw [← htk, List.getElem?_take_of_lt (by omega)]; exact hd
      exact List.all_eq_true.1 hall d (List.mem_iff_getElem?.2 ⟨32, hd'⟩)
    unfold stepR
    rw [hn]
    have hw : ∃ k s v, wholeN ((c :: t).take 32) = some (k, s, v) ∧ k ≠ 5 := by
      have hr : rightN ((c :: t).take 32) = true := by
        have := hbeg 31 (by omega) (by omega)
        rw [List.take_succ_cons, begins_letter h] at this
        exact this
      unfold wholeN
      rw [List.take_succ_cons, no_number_letter h]
      simp only
      by_cases hm : c :: t.take 31 ∈ wordsL
      · exact ⟨4, _, 0, if_pos hm, by omega⟩
      · rw [if_neg hm]
        rw [List.take_succ_cons] at hr
        exact ⟨3, _, 0, if_pos hr, by omega⟩
    obtain ⟨k, s, v, hw, hk⟩ := hw
    rw [hw]
    simp only
    rw [if_pos ⟨hk, d, hd, hfd⟩]
end Go.Proofs.YtdkoafmgenbkbaaGreatDoor
namespace Go.Proofs.YtdkoafmgenbkbaaGreatDoor
open Go.RowKit
theorem lex_letter_any (n : Nat) (w : World) : Calls Tryz.prog 67 #[.int .u8 (n : Int)] w fun e w' => e = .returned (.bool (letterN n)) ∧ Quiet w w' := by
  by_cases h1 : 65 ≤ n
  · by_cases h2 : n ≤ 90
    · have hv : letterN n = true := by simp [letterN]; omega
      rw [hv]; clear hv
      go_enter Tryz.func67, Tryz.ntmps67
      go_wp2_with fail
      go_ret
      exact ⟨rfl, Quiet.refl _⟩
    · have a2 : decide ((n : Int) ≤ 90) = false := by simp; omega
      by_cases h3 : 97 ≤ n
      · by_cases h4 : n ≤ 122
        · have hv : letterN n = true := by simp [letterN]; omega
          have a4 : decide ((n : Int) ≤ 122) = true := by simp; omega
          rw [hv]; clear hv
          go_enter Tryz.func67, Tryz.ntmps67
          go_wp2_with fail
          go_ret
          exact ⟨rfl, Quiet.refl _⟩
        · have hv : letterN n = false := by simp [letterN]; omega
          have a4 : decide ((n : Int) ≤ 122) = false := by simp; omega
          rw [hv]; clear hv
          go_enter Tryz.func67, Tryz.ntmps67
          go_wp2_with fail
          go_ret
          exact ⟨rfl, Quiet.refl _⟩
      · have hv : letterN n = false := by simp [letterN]; omega
        have a3 : decide (97 ≤ (n : Int)) = false := by simp; omega
        rw [hv]; clear hv
        go_enter Tryz.func67, Tryz.ntmps67
        go_wp2_with fail
        go_ret
        exact ⟨rfl, Quiet.refl _⟩
  · have hv : letterN n = false := by simp [letterN]; omega
    have a1 : decide (65 ≤ (n : Int)) = false := by simp; omega
    have a3 : decide (97 ≤ (n : Int)) = false := by simp; omega
    have h3 : ¬ 97 ≤ n := by omega
    rw [hv]; clear hv
    go_enter Tryz.func67, Tryz.ntmps67
    go_wp2_with fail
    go_ret
    exact ⟨rfl, Quiet.refl _⟩
theorem lex_letter (n : Nat) (b : Bool) (hb : letterN n = b) (w : World) : Calls Tryz.prog 67 #[.int .u8 (n : Int)] w fun e w' => e = .returned (.bool b) ∧ Quiet w w' := hb ▸ lex_letter_any n w
def figN (n : Nat) : Bool := decide (48 ≤ n ∧ n ≤ 57)
theorem lex_digit_any (n : Nat) (w : World) : Calls Tryz.prog 65 #[.int .u8 (n : Int)] w fun e w' => e = .returned (.bool (figN n)) ∧ Quiet w w' := by
  by_cases h1 : 48 ≤ n
  · by_cases h2 : n ≤ 57
    · have hv : figN n = true := by simp [figN]; omega
      have a2 : decide ((n : Int) ≤ 57) = true := by simp; omega
      rw [hv]; clear hv
      go_enter Tryz.func65, Tryz.ntmps65
      go_wp2_with fail
      go_ret
      exact ⟨rfl, Quiet.refl _⟩
    · have hv : figN n = false := by simp [figN]; omega
      have a2 : decide ((n : Int) ≤ 57) = false := by simp; omega
      rw [hv]; clear hv
      go_enter Tryz.func65, Tryz.ntmps65
      go_wp2_with fail
      go_ret
      exact ⟨rfl, Quiet.refl _⟩
  · have hv : figN n = false := by simp [figN]; omega
    have a1 : decide (48 ≤ (n : Int)) = false := by simp; omega
    rw [hv]; clear hv
    go_enter Tryz.func65, Tryz.ntmps65
    go_wp2_with fail
    go_ret
    exact ⟨rfl, Quiet.refl _⟩
theorem lex_digit (n : Nat) (b : Bool) (hb : figN n = b) (w : World) : Calls Tryz.prog 65 #[.int .u8 (n : Int)] w fun e w' => e = .returned (.bool b) ∧ Quiet w w' := hb ▸ lex_digit_any n w
theorem lex_further_any (n : Nat) (w : World) : Calls Tryz.prog 64 #[.int .u8 (n : Int)] w fun e w' => e = .returned (.bool (furtherN n)) ∧ Quiet w w' := by
  rcases hl : letterN n with _ | _
  · rcases hd : figN n with _ | _
    · have hd' : ¬ (48 ≤ n ∧ n ≤ 57) := by simpa [figN] using hd
      have hv : furtherN n = decide ((n : Int) = 95) := by
        unfold furtherN
        rw [hl, Bool.false_or, decide_eq_decide]
        omega
      have L := zH (fun W => lex_letter n false hl W)
      have G := zH (fun W => lex_digit n false hd W)
      by_cases h95 : n = 95
      · subst h95
        rw [hv]; clear hv hl hd hd'
        go_enter Tryz.func64, Tryz.ntmps64
        go_wp2_with (first | (go_at_call 67; refine (L.out _).mono ?_; rintro e w1 ⟨rfl, q1⟩) | (go_at_call 65; refine (G.out _).mono ?_; rintro e w2 ⟨rfl, q2⟩))
        go_ret
        exact ⟨rfl, q1.trans q2⟩
      · have hw : decide ((n : Int) = 95) = false := by simp; omega
        have e1 : ((n : Int) == 95) = false := by simp; omega
        rw [hv, hw]; clear hv hw hl hd hd'
        go_enter Tryz.func64, Tryz.ntmps64
        go_wp2_with (first | (go_at_call 67; refine (L.out _).mono ?_; rintro e w1 ⟨rfl, q1⟩) | (go_at_call 65; refine (G.out _).mono ?_; rintro e w2 ⟨rfl, q2⟩))
        go_ret
        exact ⟨rfl, q1.trans q2⟩
    · have hd' : 48 ≤ n ∧ n ≤ 57 := by simpa [figN] using hd
      have hv : furtherN n = true := by
        unfold furtherN
        rw [hl, Bool.false_or, decide_eq_true (Or.inl hd')]
      have L := zH (fun W => lex_letter n false hl W)
      have G := zH (fun W => lex_digit n true hd W)
      rw [hv]; clear hv hl hd hd'
      go_enter Tryz.func64, Tryz.ntmps64
      go_wp2_with (first | (go_at_call 67; refine (L.out _).mono ?_; rintro e w1 ⟨rfl, q1⟩) | (go_at_call 65; refine (G.out _).mono ?_; rintro e w2 ⟨rfl, q2⟩))
      go_ret
      exact ⟨rfl, q1.trans q2⟩
  · have hv : furtherN n = true := by unfold furtherN; rw [hl]; rfl
    have L := zH (fun W => lex_letter n true hl W)
    rw [hv]; clear hv hl
    go_enter Tryz.func64, Tryz.ntmps64
    go_wp2_with (go_at_call 67; refine (L.out _).mono ?_; rintro e w1 ⟨rfl, q1⟩)
    go_ret
    exact ⟨rfl, q1⟩
theorem lex_further (n : Nat) (b : Bool) (hb : furtherN n = b) (w : World) : Calls Tryz.prog 64 #[.int .u8 (n : Int)] w fun e w' => e = .returned (.bool b) ∧ Quiet w w' := hb ▸ lex_further_any n w
theorem lex_reserved_any (s : ByteArray) (w : World) : Calls Tryz.prog 68 #[.string s] w fun e w' => e = .returned (.bool (decide (bs s ∈ wordsL))) ∧ Quiet w w' := by
  by_cases hm : bs s ∈ wordsL
  · have hv : decide (bs s ∈ wordsL) = true := decide_eq_true hm
    rw [hv]
    clear hv
    simp only [wordsL, List.mem_cons, List.not_mem_nil, or_false] at hm
    rcases hm with hm | hm | hm | hm | hm | hm | hm | hm | hm | hm | hm | hm | hm | hm | hm | hm | hm | hm | hm | hm | hm | hm
    · have hs : s = ⟨#[97, 110, 100]⟩ := bs_inj (hm.trans rfl)
      subst hs
      clear hm
      go_enter Tryz.func68, Tryz.ntmps68
      go_wp2_with fail
      go_ret
      exact ⟨rfl, Quiet.refl _⟩
    · have hs : s = ⟨#[97, 110, 121]⟩ := bs_inj (hm.trans rfl)
      subst hs
      clear hm
      go_enter Tryz.func68, Tryz.ntmps68
      go_wp2_with fail
      go_ret
      exact ⟨rfl, Quiet.refl _⟩
    · have hs : s = ⟨#[99, 111, 110, 99, 101, 112, 116]⟩ := bs_inj (hm.trans rfl)
      subst hs
      clear hm
      go_enter Tryz.func68, Tryz.ntmps68
      go_wp2_with fail
      go_ret
      exact ⟨rfl, Quiet.refl _⟩
    · have hs : s = ⟨#[101, 108, 115, 101]⟩ := bs_inj (hm.trans rfl)
      subst hs
      clear hm
      go_enter Tryz.func68, Tryz.ntmps68
      go_wp2_with fail
      go_ret
      exact ⟨rfl, Quiet.refl _⟩
    · have hs : s = ⟨#[101, 110, 100]⟩ := bs_inj (hm.trans rfl)
      subst hs
      clear hm
      go_enter Tryz.func68, Tryz.ntmps68
      go_wp2_with fail
      go_ret
      exact ⟨rfl, Quiet.refl _⟩
    · have hs : s = ⟨#[101, 118, 101, 114, 121]⟩ := bs_inj (hm.trans rfl)
      subst hs
      clear hm
      go_enter Tryz.func68, Tryz.ntmps68
      go_wp2_with fail
      go_ret
      exact ⟨rfl, Quiet.refl _⟩
    · have hs : s = ⟨#[102, 97, 108, 115, 101]⟩ := bs_inj (hm.trans rfl)
      subst hs
      clear hm
      go_enter Tryz.func68, Tryz.ntmps68
      go_wp2_with fail
      go_ret
      exact ⟨rfl, Quiet.refl _⟩
    · have hs : s = ⟨#[102, 105, 114, 115, 116]⟩ := bs_inj (hm.trans rfl)
      subst hs
      clear hm
      go_enter Tryz.func68, Tryz.ntmps68
      go_wp2_with fail
      go_ret
      exact ⟨rfl, Quiet.refl _⟩
    · have hs : s = ⟨#[105, 100]⟩ := bs_inj (hm.trans rfl)
      subst hs
      clear hm
      go_enter Tryz.func68, Tryz.ntmps68
      go_wp2_with fail
      go_ret
      exact ⟨rfl, Quiet.refl _⟩
    · have hs : s = ⟨#[105, 102]⟩ := bs_inj (hm.trans rfl)
      subst hs
      clear hm
      go_enter Tryz.func68, Tryz.ntmps68
      go_wp2_with fail
      go_ret
      exact ⟨rfl, Quiet.refl _⟩
    · have hs : s = ⟨#[105, 110]⟩ := bs_inj (hm.trans rfl)
      subst hs
      clear hm
      go_enter Tryz.func68, Tryz.ntmps68
      go_wp2_with fail
      go_ret
      exact ⟨rfl, Quiet.refl _⟩
    · have hs : s = ⟨#[105, 110, 116]⟩ := bs_inj (hm.trans rfl)
      subst hs
      clear hm
      go_enter Tryz.func68, Tryz.ntmps68
      go_wp2_with fail
      go_ret
      exact ⟨rfl, Quiet.refl _⟩
    · have hs : s = ⟨#[110, 111, 110, 101]⟩ := bs_inj (hm.trans rfl)
      subst hs
      clear hm
      go_enter Tryz.func68, Tryz.ntmps68
      go_wp2_with fail
      go_ret
      exact ⟨rfl, Quiet.refl _⟩
    · have hs : s = ⟨#[110, 111, 116]⟩ := bs_inj (hm.trans rfl)
      subst hs
      clear hm
      go_enter Tryz.func68, Tryz.ntmps68
      go_wp2_with fail
      go_ret
      exact ⟨rfl, Quiet.refl _⟩
    · have hs : s = ⟨#[111, 110, 108, 121]⟩ := bs_inj (hm.trans rfl)
      subst hs
      clear hm
      go_enter Tryz.func68, Tryz.ntmps68
      go_wp2_with fail
      go_ret
      exact ⟨rfl, Quiet.refl _⟩
    · have hs : s = ⟨#[111, 114]⟩ := bs_inj (hm.trans rfl)
      subst hs
      clear hm
      go_enter Tryz.func68, Tryz.ntmps68
      go_wp2_with fail
      go_ret
      exact ⟨rfl, Quiet.refl _⟩
    · have hs : s = ⟨#[115, 101, 108, 102]⟩ := bs_inj (hm.trans rfl)
      subst hs
      clear hm
      go_enter Tryz.func68, Tryz.ntmps68
      go_wp2_with fail
      go_ret
      exact ⟨rfl, Quiet.refl _⟩
    · have hs : s = ⟨#[115, 105, 122, 101]⟩ := bs_inj (hm.trans rfl)
      subst hs
      clear hm
      go_enter Tryz.func68, Tryz.ntmps68
      go_wp2_with fail
      go_ret
      exact ⟨rfl, Quiet.refl _⟩
    · have hs : s = ⟨#[115, 117, 109]⟩ := bs_inj (hm.trans rfl)
      subst hs
      clear hm
      go_enter Tryz.func68, Tryz.ntmps68
      go_wp2_with fail
      go_ret
      exact ⟨rfl, Quiet.refl _⟩
    · have hs : s = ⟨#[116, 101, 120, 116]⟩ := bs_inj (hm.trans rfl)
      subst hs
      clear hm
      go_enter Tryz.func68, Tryz.ntmps68
      go_wp2_with fail
      go_ret
      exact ⟨rfl, Quiet.refl _⟩
    · have hs : s = ⟨#[116, 104, 101, 110]⟩ := bs_inj (hm.trans rfl)
      subst hs
      clear hm
      go_enter Tryz.func68, Tryz.ntmps68
      go_wp2_with fail
      go_ret
      exact ⟨rfl, Quiet.refl _⟩
    · have hs : s = ⟨#[116, 114, 117, 101]⟩ := bs_inj (hm.trans rfl)
      subst hs
      clear hm
      go_enter Tryz.func68, Tryz.ntmps68
      go_wp2_with fail
      go_ret
      exact ⟨rfl, Quiet.refl _⟩
  · have hv : decide (bs s ∈ wordsL) = false := decide_eq_false hm
    rw [hv]
    clear hv
    simp only [wordsL, List.mem_cons, List.not_mem_nil, or_false, not_or] at hm
    obtain ⟨h0, h1, h2, h3, h4, h5, h6, h7, h8, h9, h10, h11, h12, h13, h14, h15, h16, h17, h18, h19, h20, h21⟩ := hm
    have g0 : ¬ s.toList = [97, 110, 100] := fun e => h0 (by rw [(toList_inj s ⟨#[97, 110, 100]⟩).1 (e.trans (by rw [ByteArray.toList_eq]))]; rfl)
    have k0 : (s.toList == [97, 110, 100]) = false := by rw [beq_eq_false_iff_ne]; exact g0
    have g1 : ¬ s.toList = [97, 110, 121] := fun e => h1 (by rw [(toList_inj s ⟨#[97, 110, 121]⟩).1 (e.trans (by rw [ByteArray.toList_eq]))]; rfl)
    have k1 : (s.toList == [97, 110, 121]) = false := by rw [beq_eq_false_iff_ne]; exact g1
    have g2 : ¬ s.toList = [99, 111, 110, 99, 101, 112, 116] := fun e => h2 (by rw [(toList_inj s ⟨#[99, 111, 110, 99, 101, 112, 116]⟩).1 (e.trans (by rw [ByteArray.toList_eq]))]; rfl)
    have k2 : (s.toList == [99, 111, 110, 99, 101, 112, 116]) = false := by rw [beq_eq_false_iff_ne]; exact g2
    have g3 : ¬ s.toList = [101, 108, 115, 101] := fun e => h3 (by rw [(toList_inj s ⟨#[101, 108, 115, 101]⟩).1 (e.trans (by rw [ByteArray.toList_eq]))]; rfl)
    have k3 : (s.toList == [101, 108, 115, 101]) = false := by rw [beq_eq_false_iff_ne]; exact g3
    have g4 : ¬ s.toList = [101, 110, 100] := fun e => h4 (by rw [(toList_inj s ⟨#[101, 110, 100]⟩).1 (e.trans (by rw [ByteArray.toList_eq]))]; rfl)
    have k4 : (s.toList == [101, 110, 100]) = false := by rw [beq_eq_false_iff_ne]; exact g4
    have g5 : ¬ s.toList = [101, 118, 101, 114, 121] := fun e => h5 (by rw [(toList_inj s ⟨#[101, 118, 101, 114, 121]⟩).1 (e.trans (by rw [ByteArray.toList_eq]))]; rfl)
    have k5 : (s.toList == [101, 118, 101, 114, 121]) = false := by rw [beq_eq_false_iff_ne]; exact g5
    have g6 : ¬ s.toList = [102, 97, 108, 115, 101] := fun e => h6 (by rw [(toList_inj s ⟨#[102, 97, 108, 115, 101]⟩).1 (e.trans (by rw [ByteArray.toList_eq]))]; rfl)
    have k6 : (s.toList == [102, 97, 108, 115, 101]) = false := by rw [beq_eq_false_iff_ne]; exact g6
    have g7 : ¬ s.toList = [102, 105, 114, 115, 116] := fun e => h7 (by rw [(toList_inj s ⟨#[102, 105, 114, 115, 116]⟩).1 (e.trans (by rw [ByteArray.toList_eq]))]; rfl)
    have k7 : (s.toList == [102, 105, 114, 115, 116]) = false := by rw [beq_eq_false_iff_ne]; exact g7
    have g8 : ¬ s.toList = [105, 100] := fun e => h8 (by rw [(toList_inj s ⟨#[105, 100]⟩).1 (e.trans (by rw [ByteArray.toList_eq]))]; rfl)
    have k8 : (s.toList == [105, 100]) = false := by rw [beq_eq_false_iff_ne]; exact g8
    have g9 : ¬ s.toList = [105, 102] := fun e => h9 (by rw [(toList_inj s ⟨#[105, 102]⟩).1 (e.trans (by rw [ByteArray.toList_eq]))]; rfl)
    have k9 : (s.toList == [105, 102]) = false := by rw [beq_eq_false_iff_ne]; exact g9
    have g10 : ¬ s.toList = [105, 110] := fun e => h10 (by rw [(toList_inj s ⟨#[105, 110]⟩).1 (e.trans (by rw [ByteArray.toList_eq]))]; rfl)
    have k10 : (s.toList == [105, 110]) = false := by rw [beq_eq_false_iff_ne]; exact g10
    have g11 : ¬ s.toList = [105, 110, 116] := fun e => h11 (by rw [(toList_inj s ⟨#[105, 110, 116]⟩).1 (e.trans (by rw [ByteArray.toList_eq]))]; rfl)
    have k11 : (s.toList == [105, 110, 116]) = false := by rw [beq_eq_false_iff_ne]; exact g11
    have g12 : ¬ s.toList = [110, 111, 110, 101] := fun e => h12 (by rw [(toList_inj s ⟨#[110, 111, 110, 101]⟩).1 (e.trans (by rw [ByteArray.toList_eq]))]; rfl)
    have k12 : (s.toList == [110, 111, 110, 101]) = false := by rw [beq_eq_false_iff_ne]; exact g12
    have g13 : ¬ s.toList = [110, 111, 116] := fun e => h13 (by rw [(toList_inj s ⟨#[110, 111, 116]⟩).1 (e.trans (by rw [ByteArray.toList_eq]))]; rfl)
    have k13 : (s.toList == [110, 111, 116]) = false := by rw [beq_eq_false_iff_ne]; exact g13
    have g14 : ¬ s.toList = [111, 110, 108, 121] := fun e => h14 (by rw [(toList_inj s ⟨#[111, 110, 108, 121]⟩).1 (e.trans (by rw [ByteArray.toList_eq]))]; rfl)
    have k14 : (s.toList == [111, 110, 108, 121]) = false := by rw [beq_eq_false_iff_ne]; exact g14
    have g15 : ¬ s.toList = [111, 114] := fun e => h15 (by rw [(toList_inj s ⟨#[111, 114]⟩).1 (e.trans (by rw [ByteArray.toList_eq]))]; rfl)
    have k15 : (s.toList == [111, 114]) = false := by rw [beq_eq_false_iff_ne]; exact g15
    have g16 : ¬ s.toList = [115, 101, 108, 102] := fun e => h16 (by rw [(toList_inj s ⟨#[115, 101, 108, 102]⟩).1 (e.trans (by rw [ByteArray.toList_eq]))]; rfl)
    have k16 : (s.toList == [115, 101, 108, 102]) = false := by rw [beq_eq_false_iff_ne]; exact g16
    have g17 : ¬ s.toList = [115, 105, 122, 101] := fun e => h17 (by rw [(toList_inj s ⟨#[115, 105, 122, 101]⟩).1 (e.trans (by rw [ByteArray.toList_eq]))]; rfl)
    have k17 : (s.toList == [115, 105, 122, 101]) = false := by rw [beq_eq_false_iff_ne]; exact g17
    have g18 : ¬ s.toList = [115, 117, 109] := fun e => h18 (by rw [(toList_inj s ⟨#[115, 117, 109]⟩).1 (e.trans (by rw [ByteArray.toList_eq]))]; rfl)
    have k18 : (s.toList == [115, 117, 109]) = false := by rw [beq_eq_false_iff_ne]; exact g18
    have g19 : ¬ s.toList = [116, 101, 120, 116] := fun e => h19 (by rw [(toList_inj s ⟨#[116, 101, 120, 116]⟩).1 (e.trans (by rw [ByteArray.toList_eq]))]; rfl)
    have k19 : (s.toList == [116, 101, 120, 116]) = false := by rw [beq_eq_false_iff_ne]; exact g19
    have g20 : ¬ s.toList = [116, 104, 101, 110] := fun e => h20 (by rw [(toList_inj s ⟨#[116, 104, 101, 110]⟩).1 (e.trans (by rw [ByteArray.toList_eq]))]; rfl)
    have k20 : (s.toList == [116, 104, 101, 110]) = false := by rw [beq_eq_false_iff_ne]; exact g20
    have g21 : ¬ s.toList = [116, 114, 117, 101] := fun e => h21 (by rw [(toList_inj s ⟨#[116, 114, 117, 101]⟩).1 (e.trans (by rw [ByteArray.toList_eq]))]; rfl)
    have k21 : (s.toList == [116, 114, 117, 101]) = false := by rw [beq_eq_false_iff_ne]; exact g21
    clear h0 h1 h2 h3 h4 h5 h6 h7 h8 h9 h10 h11 h12 h13 h14 h15 h16 h17 h18 h19 h20 h21
    go_enter Tryz.func68, Tryz.ntmps68
    go_wp2_with fail
    go_ret
    exact ⟨rfl, Quiet.refl _⟩
end Go.Proofs.YtdkoafmgenbkbaaGreatDoor
namespace Go.Proofs.YtdkoafmgenbkbaaGreatDoor
open Go.RowKit
theorem lex_number (s : ByteArray) (k0 : Nat) (hk0 : k0 ≤ s.size) (hs : s.size ≤ 4096) (R : Nat × Nat × Bool) (hR : numScan ((bs s).drop k0) 0 0 = R) (w : World) : Calls Tryz.prog 66 #[.string s, .int .i64 (k0 : Int)] w fun e w' => e = .returned (.tuple #[.int .i64 (R.1 : Int), .int .i64 ((k0 + R.2.1 : Nat) : Int), .bool R.2.2]) ∧ Quiet w w' := by
  obtain ⟨n, hn⟩ : ∃ n, s.size = n := ⟨_, rfl⟩
  have Hn := zH hn
  rw [hn] at hs hk0
  have hn' : (s.size : Int) = (n : Int) := by rw [hn]
  clear hn
  have HR := zH hR
  clear hR
  go_enter Tryz.func66, Tryz.ntmps66
  go_wp2_with fail
  go_loopw [7, 8] (fun nv i wr => ∃ (j a : Nat), k0 + j ≤ n ∧ i = .int .i64 ((k0 + j : Nat) : Int) ∧ nv = .int .i64 (a : Int) ∧ a ≤ 9223372036854775807 ∧ Hid (numScan ((bs s).drop (k0 + j)) j a = R) ∧ Quiet w wr) (fun _ i _ => n - (intOf i).toNat)
  case atStart => exact ⟨0, 0, by omega, by go_num, rfl, by omega, HR.out, Quiet.refl _⟩
  case round =>
    obtain ⟨j, a, hj, rfl, rfl, ha, hu, hq⟩ := hrel
    obtain ⟨k, hk⟩ : ∃ k, k0 + j = k := ⟨_, rfl⟩
    rw [hk] at hu hj ⊢
    have b1 : (0 : Int) ≤ (k : Int) := Int.natCast_nonneg _
    by_cases hlt : k < n
    · obtain ⟨c, hc, c256⟩ := get_bs (s := s) (k := k) (by rw [Hn.out]; exact hlt)
      have i1 := fun W => index_txt W 9 Tryz.underlying9 hc .i64 _ rfl
      have hdrop := drop_bs hc
      by_cases hd : 48 ≤ c ∧ c ≤ 57
      · have D := zH (fun W => lex_digit c true (by simp [figN]; omega) W)
        have hcase : (0 < j ∧ a = 0) ∨ (j = 0 ∧ (9223372036854775807 - (c - 48)) / 10 < a) ∨ (0 < j ∧ a ≠ 0 ∧ (9223372036854775807 - (c - 48)) / 10 < a) ∨ (¬ ((0 < j ∧ a = 0) ∨ (9223372036854775807 - (c - 48)) / 10 < a) ∧ j = 0) ∨ (¬ ((0 < j ∧ a = 0) ∨ (9223372036854775807 - (c - 48)) / 10 < a) ∧ 0 < j) := by omega
        have hbadv : ((0 < j ∧ a = 0) ∨ (9223372036854775807 - (c - 48)) / 10 < a) → R = (0, j, false) := fun h => by
          have := hu.out
          rw [hdrop, numScan, if_pos hd, if_pos h] at this
          exact this.symm
        have hgoodv : ¬ ((0 < j ∧ a = 0) ∨ (9223372036854775807 - (c - 48)) / 10 < a) → numScan ((bs s).drop (k + 1)) (j + 1) (10 * a + (c - 48)) = R := fun h => by
          have := hu.out
          rw [hdrop, numScan, if_pos hd, if_neg h] at this
          exact this
        have HBV := zH hbadv
        have HGV := zH hgoodv
        obtain ⟨hd1, hd2⟩ := hd
        clear hu hc hdrop hbadv hgoodv
        rcases hcase with ⟨x1, x2⟩ | ⟨x1, x2⟩ | ⟨x1, x3, x2⟩ | ⟨x2, x1⟩ | ⟨x2, x1⟩
        · have HV := zH (HBV.out (Or.inl ⟨x1, x2⟩))
          have f1 : decide ((k0 : Int) < (k : Int)) = true := by simp; omega
          subst x2
          clear HBV HGV
          go_wp2_with (go_at_call 65; refine (D.out _).mono ?_; rintro e w1 ⟨rfl, q1⟩)
          (try simp only [Exit.inBlock, Exit.then, Exit.noGoto_ret])
          go_ret3
          exact ⟨by rw [HV.out, ← hk]; rfl, hq.trans q1⟩
        · have HV := zH (HBV.out (Or.inr x2))
          have f1 : decide ((k0 : Int) < (k : Int)) = false := by simp; omega
          have f3 : decide ((9223372036854775807 - ((c : Int) - 48)) / 10 < (a : Int)) = true := by simp; omega
          clear x2
          clear HBV HGV
          go_wp2_with (go_at_call 65; refine (D.out _).mono ?_; rintro e w1 ⟨rfl, q1⟩)
          (try simp only [Exit.inBlock, Exit.then, Exit.noGoto_ret])
          go_ret3
          exact ⟨by rw [HV.out, ← hk]; rfl, hq.trans q1⟩
        · have HV := zH (HBV.out (Or.inr x2))
          have f1 : decide ((k0 : Int) < (k : Int)) = true := by simp; omega
          have f2 : ((a : Int) == 0) = false := by simp; omega
          have f3 : decide ((9223372036854775807 - ((c : Int) - 48)) / 10 < (a : Int)) = true := by simp; omega
          clear x2
          clear HBV HGV
          go_wp2_with (go_at_call 65; refine (D.out _).mono ?_; rintro e w1 ⟨rfl, q1⟩)
          (try simp only [Exit.inBlock, Exit.then, Exit.noGoto_ret])
          go_ret3
          exact ⟨by rw [HV.out, ← hk]; rfl, hq.trans q1⟩
        · have HV := zH (HGV.out x2)
          have f1 : decide ((k0 : Int) < (k : Int)) = false := by simp; omega
          have f3 : decide ((9223372036854775807 - ((c : Int) - 48)) / 10 < (a : Int)) = false := by simp; omega
          have f4 : 10 * a + (c - 48) ≤ 9223372036854775807 := by omega
          have f5 : 10 * (a : Int) + ((c : Int) - 48) ≤ 9223372036854775807 := by omega
          clear x2
          clear HBV HGV
          go_wp2_with (go_at_call 65; refine (D.out _).mono ?_; rintro e w1 ⟨rfl, q1⟩)
          go_roundw
          case rel => exact ⟨j + 1, 10 * a + (c - 48), by omega, by go_num, by go_num, f4, by rw [show k0 + (j + 1) = k + 1 by omega]; exact HV.out, hq.trans q1⟩
          case measure => simp [intOf]; omega
        · have HV := zH (HGV.out x2)
          have f1 : decide ((k0 : Int) < (k : Int)) = true := by simp; omega
          have f2 : ((a : Int) == 0) = false := by simp; omega
          have f3 : decide ((9223372036854775807 - ((c : Int) - 48)) / 10 < (a : Int)) = false := by simp; omega
          have f4 : 10 * a + (c - 48) ≤ 9223372036854775807 := by omega
          have f5 : 10 * (a : Int) + ((c : Int) - 48) ≤ 9223372036854775807 := by omega
          clear x2
          clear HBV HGV
          go_wp2_with (go_at_call 65; refine (D.out _).mono ?_; rintro e w1 ⟨rfl, q1⟩)
          go_roundw
          case rel => exact ⟨j + 1, 10 * a + (c - 48), by omega, by go_num, by go_num, f4, by rw [show k0 + (j + 1) = k + 1 by omega]; exact HV.out, hq.trans q1⟩
          case measure => simp [intOf]; omega
      · have hd0 : figN c = false := by simp [figN]; omega
        have D := zH (fun W => lex_digit c false hd0 W)
        have e0 : ((k : Int) == (n : Int)) = false := by simp; omega
        have hv : R = (a, j, !furtherN c) := by
          have := hu.out
          rw [hdrop, numScan, if_neg hd] at this
          exact this.symm
        have HV := zH hv
        obtain ⟨b, hb⟩ : ∃ b, furtherN c = b := ⟨_, rfl⟩
        have F := zH (fun W => lex_further c b hb W)
        rw [hb] at HV
        clear hu hc hdrop hd hd0 hv hb
        go_wp2_with (first | (go_at_call 65; refine (D.out _).mono ?_; rintro e w1 ⟨rfl, q1⟩) | (go_at_call 64; refine (F.out _).mono ?_; rintro e w2 ⟨rfl, q2⟩))
        go_ret3
        exact ⟨by rw [HV.out, ← hk]; rfl, (hq.trans q1).trans q2⟩
    · have hkn : k = n := by omega
      have e0 : ((k : Int) == (n : Int)) = true := by simp; omega
      have hdec : decide (k < n) = false := by simp; omega
      have hdec2 : decide ((k : Int) < (n : Int)) = false := by simp; omega
      have hv : R = (a, j, true) := by
        have := hu.out
        rw [List.drop_of_length_le (by rw [bs_len, Hn.out]; omega)] at this
        exact this.symm
      have HV := zH hv
      clear hu hv hkn
      go_wp2_with fail
      go_ret3
      exact ⟨by rw [HV.out, ← hk]; rfl, hq⟩
theorem prefix_take : ∀ (m r : List Nat), m.isPrefixOf r = decide (m.length ≤ r.length ∧ r.take m.length = m)
  | [], r => by simp
  | a :: m, [] => by simp
  | a :: m, b :: r => by
    rw [List.isPrefixOf, prefix_take m r, Bool.eq_iff_iff]
    simp
    constructor
    · rintro ⟨rfl, h1, h2⟩; exact ⟨h1, rfl, h2⟩
    · rintro ⟨h1, rfl, h2⟩; exact ⟨rfl, h1, h2⟩
theorem lex_prefix (s t : ByteArray) (hs : s.size ≤ maxLen) (ht : t.size ≤ maxLen) (b : Bool) (hb : (bs t).isPrefixOf (bs s) = b) (w : World) : Calls Tryz.prog 83 #[.string s, .string t] w fun e w' => e = .returned (.bool b) ∧ Quiet w w' := by
  have key : ∀ W, Calls Tryz.prog 99 #[.string s, .string t] W fun e w' => e = .returned (.bool b) ∧ Quiet W w' := by
    intro W
    unfold maxLen at hs ht
    rw [prefix_take, bs_len, bs_len] at hb
    obtain ⟨n, hn⟩ : ∃ n, s.size = n := ⟨_, rfl⟩
    obtain ⟨m, hm⟩ : ∃ m, t.size = m := ⟨_, rfl⟩
    have hn' : (s.size : Int) = (n : Int) := by rw [hn]
    have hm' : (t.size : Int) = (m : Int) := by rw [hm]
    rw [hn] at hs hb
    rw [hm] at ht hb
    have Hn := zH hn
    have Hm := zH hm
    clear hn hm
    by_cases h1 : m ≤ n
    · have he : bs (s.extract 0 m) = (bs s).take m := by rw [bs_extract]; simp
      by_cases h2 : (bs s).take m = bs t
      · have hbt : b = true := by rw [← hb]; exact decide_eq_true ⟨h1, h2⟩
        have hx : s.extract 0 m = t := bs_inj (he.trans h2)
        subst hbt
        clear hb h2 he
        go_enter Tryz.func99, Tryz.ntmps99
        go_wp2_with fail
        go_ret
        exact ⟨by first | rfl | (rw [show (0 : Int).toNat = 0 from rfl]; simp [hx]) | simp [hx], Quiet.refl _⟩
      · have hbt : b = false := by rw [← hb]; exact decide_eq_false (fun h => h2 h.2)
        have hx : ¬ (s.extract 0 m).toList = t.toList := fun e => h2 (by rw [← he, (toList_inj _ _).1 e])
        have hxb : ((s.extract 0 m).toList == t.toList) = false := by rw [beq_eq_false_iff_ne]; exact hx
        subst hbt
        clear hb h2 he
        go_enter Tryz.func99, Tryz.ntmps99
        go_wp2_with fail
        go_ret
        exact ⟨by first | rfl | simp [hx], Quiet.refl _⟩
    · have hbt : b = false := by rw [← hb]; exact decide_eq_false (fun h => h1 h.1)
      have hdec : decide ((m : Int) ≤ (n : Int)) = false := by simp; omega
      subst hbt
      clear hb
      go_enter Tryz.func99, Tryz.ntmps99
      go_wp2_with fail
      go_ret
      exact ⟨rfl, Quiet.refl _⟩
  have K := zH key
  clear key hb
  go_enter Tryz.func83, Tryz.ntmps83
  go_wp2_with (go_at_call 99; refine (K.out _).mono ?_; rintro e w1 ⟨rfl, q1⟩)
  go_ret
  exact ⟨rfl, q1⟩
end Go.Proofs.YtdkoafmgenbkbaaGreatDoor
namespace Go.Proofs.YtdkoafmgenbkbaaGreatDoor
open Go.RowKit
def marksV : Array Value := (marksL.map fun m => Value.string (txt m)).toArray
def Marks (w : World) : Prop := w.var? Tryz.prog "topiary/lex.marks" = some marksV
theorem lex_var_keep {P : Program} {w w' : World} {n : String} {cs : Array Value} (h : w.var? P n = some cs) (hb : Below w.heap.size w w') : w'.var? P n = some cs := by
  unfold World.var? at h ⊢
  cases hg : P.globalNamed n with
  | none => rw [hg] at h; simp at h
  | some g =>
    rw [hg] at h
    simp only [Option.bind_some] at h ⊢
    have hlt : g < w.heap.size := by
      rcases Nat.lt_or_ge g w.heap.size with hlt | hge
      · exact hlt
      · rw [Array.getElem?_eq_none hge] at h; cases h
    rw [hb.block g hlt]
    exact h
theorem Marks.below {w w' : World} (h : Marks w) (hb : Below w.heap.size w w') : Marks w' := lex_var_keep h hb
theorem Marks.drewN {w : World} (h : Marks w) (n : Nat) : Marks (w.drewN n) := h
theorem marks_block {w : World} (h : Marks w) : ∃ t fr, w.heap[2]? = some (.cells marksV t fr) := by
  unfold Marks World.var? at h
  rw [show Tryz.prog.globalNamed "topiary/lex.marks" = some 2 by kernel_rfl] at h
  simp only [Option.bind_some] at h
  cases hh : w.heap[2]? with
  | none => rw [hh] at h; cases h
  | some o =>
    rw [hh] at h
    cases o with
    | cells cs t fr => simp only [Option.some.injEq] at h; subst h; exact ⟨t, fr, rfl⟩
    | _ => cases h
theorem marks_index (k : Nat) (hk : k < 16) (W : World) : ∃ m, marksL[k]? = some m ∧ m ≠ [] ∧ m.length ≤ 2 ∧ (Instr.index 142 (.agg marksV) (.int .i64 (k : Int))).run Tryz.prog W = .ok (.string (txt m)) W := by
  rcases k with _ | _ | _ | _ | _ | _ | _ | _ | _ | _ | _ | _ | _ | _ | _ | _ | k
  all_goals first | omega | exact ⟨_, rfl, by simp, by simp, by kernel_rfl⟩
theorem find_drop {p : List Nat → Bool} {l : List (List Nat)} {k : Nat} {m : List Nat} (h : l[k]? = some m) : (l.drop k).find? p = if p m = true then some m else (l.drop (k + 1)).find? p := by
  have hk := (List.getElem?_eq_some_iff.1 h).1
  rw [List.drop_eq_getElem_cons hk, (List.getElem?_eq_some_iff.1 h).2, List.find?_cons]
  cases p m <;> rfl
theorem lex_mark (s : ByteArray) (c0 : Nat) (hc0 : (bs s)[0]? = some c0) (hs : s.size ≤ 4096) (R : List Nat × Nat) (hR : markN (bs s) = R) (w : World) (hm : Marks w) : Calls Tryz.prog 69 #[.string s] w fun e w' => e = .returned (.tuple #[.string (txt R.1), .int .i64 (R.2 : Int)]) ∧ Quiet w w' := by
  obtain ⟨tt, fr, hg1⟩ := marks_block hm
  have hF : (match (marksL.drop 0).find? (fun m => m.isPrefixOf (bs s)) with | some m => (m, m.length) | none => if (bs s).head? = some 33 ∨ (bs s).head? = some 61 then ([], 1) else ([], 0)) = R := hR
  have HF := zH hF
  have i0 := fun W => index_txt W 9 Tryz.underlying9 hc0 .i64 0 rfl
  have hhead : (bs s).head? = some c0 := by rw [List.head?_eq_getElem?]; exact hc0
  have Hhead := zH hhead
  have hpos : 0 < s.size := by rw [← bs_len]; exact (List.getElem?_eq_some_iff.1 hc0).1
  clear hm hF hR hc0 hhead
  go_enter Tryz.func69, Tryz.ntmps69
  go_wp2_with (refine wpList_load_row rfl 142 _ rfl 2 rfl tt _ fr _ hg1 Tryz.underlying142 rfl (by kernel_rfl) ?_)
  go_loopw [7] (fun i wr => ∃ k : Nat, k ≤ 16 ∧ i = .int .i64 (k : Int) ∧ Hid ((match (marksL.drop k).find? (fun m => m.isPrefixOf (bs s)) with | some m => (m, m.length) | none => if (bs s).head? = some 33 ∨ (bs s).head? = some 61 then ([], 1) else ([], 0)) = R) ∧ Quiet w wr) (fun i _ => 16 - (intOf i).toNat)
  case atStart => exact ⟨0, by omega, by go_num, HF.out, Quiet.refl _⟩
  case round =>
    obtain ⟨k, hk, rfl, hu, hq⟩ := hrel
    have b1 : (0 : Int) ≤ (k : Int) := Int.natCast_nonneg _
    by_cases hlt : k < 16
    · obtain ⟨m, hm, hne, hml, _⟩ := marks_index k hlt wr
      have hidx : ∀ W, (Instr.index 142 (.agg marksV) (.int .i64 (k : Int))).run Tryz.prog W = .ok (.string (txt m)) W := fun W => by
        obtain ⟨m', hm', _, _, h⟩ := marks_index k hlt W
        rw [hm] at hm'
        injection hm' with hm'
        subst hm'
        exact h
      have hby : Bytes m := by
        have : ∀ m ∈ marksL, ∀ n ∈ m, n < 256 := by decide
        exact this m (List.mem_iff_getElem?.2 ⟨k, hm⟩)
      have hsz : (txt m).size = m.length := txt_size m
      have hszi : ((txt m).size : Int) = (m.length : Int) := by rw [hsz]
      obtain ⟨b, hb⟩ : ∃ b, m.isPrefixOf (bs s) = b := ⟨_, rfl⟩
      have PX := zH (fun W => lex_prefix s (txt m) (by unfold maxLen; omega) (by rw [hsz]; unfold maxLen; omega) b (by rw [bs_txt hby]; exact hb) W)
      have hf := find_drop (p := fun m => m.isPrefixOf (bs s)) hm
      rw [hb] at hf
      cases b with
      | true =>
        have hv := hu.out
        rw [hf, if_pos rfl] at hv
        have HV := zH hv
        clear hu hv hm hne hby hb hf
        go_wp2_with (go_at_call 83; refine (PX.out _).mono ?_; rintro e w1 ⟨rfl, q1⟩)
        go_ret2
        exact ⟨by rw [← HV.out]; rfl, hq.trans q1⟩
      | false =>
        have hv := hu.out
        rw [hf, if_neg (by simp)] at hv
        have HV := zH hv
        clear hu hv hm hne hby hb hf
        go_wp2_with (go_at_call 83; refine (PX.out _).mono ?_; rintro e w1 ⟨rfl, q1⟩)
        go_roundw
        case rel => exact ⟨k + 1, by omega, by go_num, HV.out, hq.trans q1⟩
        case measure => simp [intOf]; omega
    · have hk16 : k = 16 := by omega
      subst hk16
      have hv := hu.out
      rw [show (marksL.drop 16) = [] from rfl, List.find?_nil, Hhead.out] at hv
      have hdec : decide (((16 : Nat) : Int) < 16) = false := by decide
      clear hu
      by_cases h33 : c0 = 33
      · subst h33
        have HV := zH hv
        clear hv
        go_wp2_with fail
        go_ret2
        exact ⟨by rw [← HV.out]; rfl, hq⟩
      · have e1 : ((c0 : Int) == 33) = false := by simp; omega
        by_cases h61 : c0 = 61
        · subst h61
          have HV := zH hv
          clear hv
          go_wp2_with fail
          go_ret2
          exact ⟨by rw [← HV.out]; rfl, hq⟩
        · have e2 : ((c0 : Int) == 61) = false := by simp; omega
          rw [if_neg (by simp; omega)] at hv
          have HV := zH hv
          clear hv
          go_wp2_with fail
          go_ret2
          exact ⟨by rw [← HV.out]; rfl, hq⟩
theorem Quiet.cell {w w' : World} (h : Quiet w w') {a : Addr} {v : Value} (hc : w.cell? a = some v) : w'.cell? a = some v := by
  obtain ⟨n, rfl⟩ := h
  exact hc
theorem takeWhile_run {p : Nat → Bool} : ∀ (r : List Nat) (j : Nat), j ≤ r.length → (∀ i, i < j → ∃ c, r[i]? = some c ∧ p c = true) → (j = r.length ∨ ∃ c, r[j]? = some c ∧ p c = false) → r.takeWhile p = r.take j
  | [], j, h, _, _ => by simp
  | a :: r, 0, _, _, h => by
    rcases h with h | ⟨c, h, hp⟩
    · simp at h
    · simp at h; subst h; rw [List.takeWhile_cons, if_neg (by rw [hp]; simp), List.take_zero]
  | a :: r, j + 1, h, h1, h2 => by
    obtain ⟨c, hc, hp⟩ := h1 0 (by omega)
    simp at hc
    subst hc
    rw [List.takeWhile_cons, if_pos hp, List.take_succ_cons, takeWhile_run r j (by simpa using h) (fun i hi => by simpa using h1 (i + 1) (by omega)) (by simpa using h2)]
theorem lex_run (s : ByteArray) (k0 : Nat) (hk0 : k0 ≤ s.size) (hs : s.size ≤ 4096) (w : World) (g0 g1 : Nat) (h1 : Blk w g0 9 #[.string s]) (h2 : Blk w g1 3 #[.int .i64 (k0 : Int)]) : Calls Tryz.prog 63 #[.pointer (some ⟨g1, 0, none⟩), .pointer (some ⟨g0, 0, none⟩)] w fun e w' => e = .returned (.string (txt (((bs s).drop k0).takeWhile furtherN))) ∧ Quiet w w' := by
  obtain ⟨n, hn⟩ : ∃ n, s.size = n := ⟨_, rfl⟩
  have Hn := zH hn
  rw [hn] at hs hk0
  have hn' : (s.size : Int) = (n : Int) := by rw [hn]
  clear hn
  have C1 := h1.cell (i := 0) rfl
  have C2 := h2.cell (i := 0) rfl
  clear h1 h2
  go_enter Tryz.func63, Tryz.ntmps63
  go_wp2_with fail
  go_loopw [3] (fun i wr => ∃ j : Nat, k0 + j ≤ n ∧ i = .int .i64 ((k0 + j : Nat) : Int) ∧ Hid (∀ i, i < j → ∃ c, ((bs s).drop k0)[i]? = some c ∧ furtherN c = true) ∧ Quiet w wr) (fun i _ => n - (intOf i).toNat)
  case atStart => exact ⟨0, by omega, by go_num, fun i hi => by omega, Quiet.refl _⟩
  case round =>
    obtain ⟨j, hj, rfl, hu, hq⟩ := hrel
    obtain ⟨k, hk⟩ : ∃ k, k0 + j = k := ⟨_, rfl⟩
    rw [hk] at hj ⊢
    have b1 : (0 : Int) ≤ (k : Int) := Int.natCast_nonneg _
    have b2 : (0 : Int) ≤ (k0 : Int) := Int.natCast_nonneg _
    have C1' := hq.cell C1
    have C2' := hq.cell C2
    by_cases hlt : k < n
    · obtain ⟨c, hc, c256⟩ := get_bs (s := s) (k := k) (by rw [Hn.out]; exact hlt)
      have i1 := fun W => index_txt W 9 Tryz.underlying9 hc .i64 _ rfl
      obtain ⟨b, hb⟩ : ∃ b, furtherN c = b := ⟨_, rfl⟩
      have F := zH (fun W => lex_further c b hb W)
      have hcj : ((bs s).drop k0)[j]? = some c := by rw [List.getElem?_drop, hk]; exact hc
      cases b with
      | true =>
        have hnew : ∀ i, i < j + 1 → ∃ c, ((bs s).drop k0)[i]? = some c ∧ furtherN c = true := fun i hi => by
          by_cases e : i = j
          · subst e; exact ⟨c, hcj, hb⟩
          · exact hu.out i (by omega)
        have HN := zH hnew
        clear hnew hu hc hcj hb
        go_wp2_with (go_at_call 64; refine (F.out _).mono ?_; rintro e w1 ⟨rfl, q1⟩)
        go_roundw
        case rel => exact ⟨j + 1, by omega, by go_num, HN.out, hq.trans q1⟩
        case measure => simp [intOf]; omega
      | false =>
        have hv := takeWhile_run (p := furtherN) ((bs s).drop k0) j (by rw [List.length_drop, bs_len, Hn.out]; omega) hu.out (Or.inr ⟨c, hcj, hb⟩)
        have hx : s.extract k0 k = txt (((bs s).drop k0).takeWhile furtherN) := by
          apply bs_inj
          rw [bs_txt (fun x hx => bs_bytes s x (List.mem_of_mem_drop ((List.takeWhile_sublist _).subset hx))), hv, bs_extract, List.drop_take, show k - k0 = j by omega]
        have HX := zH hx
        clear hu hc hcj hb hv hx
        go_wp2_with (go_at_call 64; refine (F.out _).mono ?_; rintro e w1 ⟨rfl, q1⟩; have C1'' := q1.cell C1'; have C2'' := q1.cell C2')
        go_ret
        exact ⟨by rw [← HX.out]; rfl, hq.trans q1⟩
    · have hdec : decide (k < n) = false := by simp; omega
      have hdec2 : decide ((k : Int) < (n : Int)) = false := by simp; omega
      have hv := takeWhile_run (p := furtherN) ((bs s).drop k0) j (by rw [List.length_drop, bs_len, Hn.out]; omega) hu.out (Or.inl (by rw [List.length_drop, bs_len, Hn.out]; omega))
      have hx : s.extract k0 k = txt (((bs s).drop k0).takeWhile furtherN) := by
        apply bs_inj
        rw [bs_txt (fun x hx => bs_bytes s x (List.mem_of_mem_drop ((List.takeWhile_sublist _).subset hx))), hv, bs_extract, List.drop_take, show k - k0 = j by omega]
      have HX := zH hx
      clear hu hv hx
      go_wp2_with fail
      go_ret
      exact ⟨by rw [← HX.out]; rfl, hq⟩
end Go.Proofs.YtdkoafmgenbkbaaGreatDoor
namespace Go.Proofs.YtdkoafmgenbkbaaGreatDoor
open Go.RowKit
structure InsPre (W0 W : World) (k g n c : Nat) (la : Option Addr) (ln lc : Nat) (cl : List Ins) (l : List Pl) (i : Nat) (p : Pl) (arg : Int) : Prop where
  hk : Blk W k 65 #[.slice la ln lc, .slice (some ⟨g, 0, none⟩) n c]
  hl : SlR W0 W0.heap.size 4 Ins.Is (.slice la ln lc) cl
  hw : Below W0.heap.size W0 W
  hp : PlS W g l
  nl : n = l.length
  nc : n = cl.length + 1
  few : cl.length ≤ 1024
  hi : i < cl.length
  hpi : l[i]? = some p
  good : p.Good i
  arg0 : 0 ≤ arg
theorem InsPre.apart {W0 W : World} {k g n c : Nat} {la : Option Addr} {ln lc : Nat} {cl : List Ins} {l : List Pl} {i : Nat} {p : Pl} {arg : Int} (I : InsPre W0 W k g n c la ln lc cl l i p arg) : k ≠ g := by
  intro e
  obtain ⟨cs, hcs⟩ := I.hp.blk
  have := I.hk
  rw [e] at this
  unfold Blk at this hcs
  rw [hcs] at this
  injection this with this
  injection this with _ e2 _
  exact absurd e2 (by decide)
theorem quiet_calln {P : Program} {f : FuncId} {args : Array Value} {w : World} {n : Nat} {v : Value} (h : Calls P f args (w.drewN n) fun e w' => e = .returned v ∧ Quiet (w.drewN n) w') :
    Calls P f args (w.drewN n) fun e w'' => e = .returned v ∧ ∃ m, w'' = w.drewN m :=
  h.mono fun _ _ ⟨he, m, hm⟩ => ⟨he, n + m, by rw [hm, World.drewN_drewN]⟩
theorem quiet_calln2 {P : Program} {f : FuncId} {args : Array Value} {w : World} {a n : Nat} {v : Value} (h : Calls P f args (w.drewN (a + n)) fun e w' => e = .returned v ∧ Quiet (w.drewN (a + n)) w') :
    Calls P f args (w.drewN (a + n)) fun e w'' => e = .returned v ∧ ∃ m, w'' = w.drewN (a + m) :=
  h.mono fun _ _ ⟨he, m, hm⟩ => ⟨he, n + m, by rw [hm, World.drewN_drewN, Nat.add_assoc]⟩
theorem lead_at {k g n c tw : Nat} {lv : Value} {l : List Pl} (W : World) (toI h : Int) (v : Value) (ls : List (Int × Int)) (hI : toI = (tw : Int))
   (HK : Blk W k 65 #[lv, .slice (some ⟨g, 0, none⟩) n c]) (HP : PlS W g l) (hn : n = l.length) (hto : tw < l.length) (hmax : n ≤ 1025) (hv : LpR W v ls) :
    Calls Tryz.prog 21 #[.pointer (some ⟨k, 0, none⟩), .int .i64 toI, .int .i64 h, v] W (LedTo W g (leadN l tw h ls)) := by
  subst hI
  exact lead_any W tw h v ls HK HP hn hto hmax hv
theorem LedTo.none {W w' : World} {g : Nat} (h : W.grownBy w' (some g)) : LedTo W g .none (.returned (.bool false)) w' := ⟨rfl, h, fun _ e => by cases e⟩
theorem LedTo.from {W W1 w' : World} {g : Nat} {r : Option (List Pl)} {e : Ending} (h : W.grownBy W1 (some g)) (k : LedTo W1 g r e w') : LedTo W g r e w' := ⟨k.1, grown_trans h k.2.1, k.2.2⟩
end Go.Proofs.YtdkoafmgenbkbaaGreatDoor
