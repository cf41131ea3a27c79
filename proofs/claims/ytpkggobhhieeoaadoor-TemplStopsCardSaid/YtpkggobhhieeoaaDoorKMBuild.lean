/- - -/
import Derived.Test.YtpkggobhhieeoaaDoorKImpS
import Derived.Test.YtpkggobhhieeoaaDoorKM8
import Derived.Test.YtpkggobhhieeoaaDoorKM5
import Derived.Test.YtpkggobhhieeoaaDoorKTqA
set_option maxRecDepth 100000
set_option maxHeartbeats 32000000
set_option linter.unusedSimpArgs false
set_option linter.unusedVariables false
namespace Go.Proofs.YtpkggobhhieeoaaDoor
open Go.RowKit
def BuiltSt (w : World) (B b : Nat) (l : List Nat) : Prop :=
  B ≤ b ∧ ∃ p v, (p = .pointer none ∨ p = .pointer (some ⟨b, 0, none⟩)) ∧ Blk w b 53 #[p, v] ∧ Own1 w B 5 1 IsByte v l
def KeptBut (b : Nat) (w w' : World) : Prop := ∀ k t cs, Blk w k t cs → t ≠ 5 → k ≠ b → Blk w' k t cs
theorem KeptBut.refl (b : Nat) (w : World) : KeptBut b w w := fun _ _ _ h _ _ => h
theorem KeptBut.trans {b : Nat} {w w' w'' : World} (h : KeptBut b w w') (k : KeptBut b w' w'') : KeptBut b w w'' := fun x t cs hb ht hx => k x t cs (h x t cs hb ht hx) ht hx
theorem own_ne {w : World} {B b size : Nat} {e T : TypeId} {α : Type} {R : List Value → α → Prop} {v : Value} {l : List α} {cs : Array Value} (h : Own1 w B e size R v l) (hb : Blk w b T cs) (hT : T ≠ e) : v.ownBlock ≠ some b := by
  obtain ⟨xs, h1, _⟩ := h
  rcases h1.2 with ⟨rfl, _⟩ | ⟨g, cap, cur, rfl, _, hg, _⟩
  · simp [Value.ownBlock]
  · intro h
    simp only [Value.ownBlock, Option.some.injEq] at h
    subst h
    unfold Blk at hb
    rw [hg] at hb
    simp only [Option.some.injEq, Obj.cells.injEq] at hb
    exact hT hb.2.1.symm
theorem Own1.setOther {α : Type} {w : World} {base size : Nat} {e : TypeId} {R : List Value → α → Prop} {v : Value} {l : List α} (h : Own1 w base e size R v l) {p : Addr} (hp : v.ownBlock ≠ some p.block) (u : Value) : Own1 (w.setCell p u) base e size R v l := by
  obtain ⟨xs, h1, h2⟩ := h
  exact ⟨xs, ownsRow_setCell_other h1 hp u, h2⟩
theorem KeptBut.of_set {b : Nat} {w : World} (i : Nat) (u : Value) : KeptBut b w (w.setCell ⟨b, i, none⟩ u) := fun _ _ _ h _ hk => h.far hk u
theorem KeptBut.of_grown {b : Nat} {w w' : World} {B size : Nat} {α : Type} {R : List Value → α → Prop} {v : Value} {l : List α} (h : Own1 w B 5 size R v l) (hg : w.grownBy w' v.ownBlock) : KeptBut b w w' := fun _ _ _ hb ht _ => hb.grown hg (fun e => own_ne h hb ht e.symm)
theorem BuiltSt.new (w : World) : BuiltSt (w.alloc (.cells #[.pointer none, .slice none 0 0] 53)) w.heap.size w.heap.size [] :=
  ⟨Nat.le_refl _, _, _, .inl rfl, Blk.new w _ _, ⟨[], World.ownsRow_nil _ _ _ _, FlatR.nil_⟩⟩
theorem BuiltSt.keep {w w' : World} {B b : Nat} {l : List Nat} (h : BuiltSt w B b l) (hb : Below w.heap.size w w') : BuiltSt w' B b l := by
  obtain ⟨h1, p, v, h2, h3, h4⟩ := h
  exact ⟨h1, p, v, h2, h3.below hb h3.lt, h4.below hb zL⟩
theorem sizeBuilder : (Tryd.prog.info? 53).map (·.size) = some 2 := by kernel_rfl
theorem info_u8 : (Tryd.prog.info? 5).map (fun i => (i.zero, i.size, i.bytes)) = some (some (.int .u8 0), 1, 1) := by kernel_rfl
theorem liesBuilder : liesAt Tryd.prog Tryd.prog.depth 53 (2 / Tryd.prog.cellsOf 53) 0 53 1 = true := by kernel_rfl
theorem blk_shape {w : World} {b : Nat} {t : TypeId} {x y : Value} (h : Blk w b t #[x, y]) : w.shape? b = some (t, 2) := by
  unfold Blk at h
  simp [World.shape?, h]
theorem wpList_append_text' {P : Program} {ops : Array Oper} {rest : List Oper} {o : Oper} {a : Act} {Q : Exit → Act → World → Prop} {w : World} (hgd : o.guard = none) (sl x : Operand) (t u : TypeId)
    (ho : o.op = .call { callee := .builtin .append, args := #[sl, x], argTypes := #[t, u] })
    (base : Nat) (e : TypeId) (i : TypeInfo) (ht : P.underlying t = some (.slice e)) (hu : P.underlying u = some .string) (hi : P.info? e = some i) (hz : i.zero = some (.int .u8 0))
    (hsize : i.size = 1) (hby : i.bytes = 1)
    (v : Value) (l : List Nat) (hs : a.eval sl = v) (hown : Own1 w base e 1 IsByte v l) (s : ByteArray) (hx : a.eval x = .string s)
    (h63 : l.length + s.size ≤ maxLen) (hbytes : l.length + s.size ≤ 140737488355328) (hbase : base ≤ w.heap.size)
    (h : ∀ (a' : Option Addr) (n' c' : Nat) w', Own1 w' base e 1 IsByte (.slice a' n' c') (l ++ bs s) → w.grownBy w' v.ownBlock → wpList P ops Q rest (a.put o.dst (.slice a' n' c')) w') : wpList P ops Q (o :: rest) a w := by
  obtain ⟨xs, h1, h2⟩ := hown
  obtain ⟨rfl, hb⟩ := byteRow h2
  refine Lib.wpList_append_own_string w hgd sl x t u ho base e i ht hu hi hz hsize hby v l.length _ hs h1 s hx h63 hbytes hbase (fun v' w' g1 g2 _ => ?_)
  rw [strCells_eq, ← List.map_append] at g1
  have hl : (l ++ bs s).length = l.length + s.size := by rw [List.length_append, bs_len]
  have hown : Own1 w' base e 1 IsByte v' (l ++ bs s) := ⟨_, by rw [hl]; exact g1, byteRow_mk (bytes_app hb (bs_bytes s))⟩
  obtain ⟨a', c', rfl⟩ := hown.form
  exact h _ _ _ w' hown g2
theorem copy_check {w : World} {B b : Nat} {l : List Nat} (h : BuiltSt w B b l) :
    Calls Tryd.prog 35 #[.pointer (some ⟨b, 0, none⟩)] w fun e w' => e = .returned (.tuple #[]) ∧ (BuiltSt w' B b l ∧ Below B w w' ∧ KeptBut b w w') := by
  obtain ⟨hB, p, v, hp, hbk, hown⟩ := h
  obtain ⟨j, hj, hjs⟩ := Option.map_eq_some_iff.1 sizeBuilder
  have hsh := blk_shape hbk
  have hne := own_ne hown hbk (by decide)
  have h0 := hbk.cell (i := 0) rfl
  have f0 := hbk.frozen 0
  have HB := zH (And.intro hbk hown)
  clear hbk hown
  rcases hp with rfl | rfl
  · have hto := zH (Lib.run_to_unsafe (P := Tryd.prog) w ⟨b, 0, none⟩ Tryd.underlying51 Tryd.underlying90 hj (by rw [hjs]; decide) hsh (Nat.zero_lt_succ 1))
    have hfrom := zH (Lib.run_from_unsafe (P := Tryd.prog) w ⟨b, 0, none⟩ Tryd.underlying90 Tryd.underlying51 hj hsh liesBuilder)
    clear hsh hj
    go_enter Tryd.func35, Tryd.ntmps35
    go_wp2
    rw [hto.out]
    simp only [Result.andThen]
    rw [Oper.upon_value]
    go_wp2
    rw [run_callFunc_extern Tryd.func49 (by kernel_rfl) (by kernel_rfl) (by kernel_rfl) (e := Extern.AbiNoEscape.same) (by kernel_rfl)]
    rw [Lib.run_noEscape]
    simp only [Result.andThen]
    rw [Oper.upon_value]
    go_wp2
    rw [hfrom.out]
    simp only [Result.andThen]
    rw [Oper.upon_value]
    go_wp2
    go_end0
    exact ⟨rfl, ⟨hB, _, _, .inr rfl, HB.out.1.set_ 0 _, HB.out.2.setOther hne _⟩, (Below.refl B w).setCell (p := ⟨b, 0, none⟩) hB _, KeptBut.of_set 0 _⟩
  · have hnn := Lib.run_neq_ptr_same (P := Tryd.prog) w ⟨b, 0, none⟩ Tryd.underlying51 hj
    clear hsh hj
    go_enter Tryd.func35, Tryd.ntmps35
    go_wp2
    go_end0
    exact ⟨rfl, ⟨hB, _, _, .inr rfl, HB.out.1, HB.out.2⟩, zB, KeptBut.refl _ _⟩
theorem write_text {w : World} {B b : Nat} {l : List Nat} (s : ByteArray) (h : BuiltSt w B b l) (hlen : l.length + s.size ≤ 140737488355328) (hBw : B ≤ w.heap.size) :
    Calls Tryd.prog 22 #[.pointer (some ⟨b, 0, none⟩), .string s] w fun e w' => e = .returned (.tuple #[.int .i64 s.size, .nilIface]) ∧ (BuiltSt w' B b (l ++ bs s) ∧ Below B w w' ∧ KeptBut b w w') := by
  obtain ⟨j, hi, hz, hsz, hby⟩ := info_parts info_u8
  have I := zH (And.intro hi (And.intro hz (And.intro hsz hby)))
  have CC := zH (copy_check h)
  have hBb := h.1
  clear hi hz hsz hby h
  go_enter Tryd.func22, Tryd.ntmps22
  go_wp2_with (first
    | (go_at_call 35
       refine CC.out.mono ?_
       rintro e w1 ⟨rfl, hst, hb1, hk1⟩
       obtain ⟨_, p, v, hp, hbk, hown⟩ := hst
       obtain ⟨va, vc, rfl⟩ := hown.form
       have c1 := hbk.cell (i := 1) rfl
       have hlt := hbk.lt
       have hz1 := hb1.size
       have hBz : B ≤ w1.heap.size := Nat.le_trans hBw hz1
       have HB := zH (And.intro hp (And.intro hbk hown))
       have H1 := zH (And.intro hb1 hk1)
       clear hp hbk hown hb1 hk1 CC)
    | (at_builtin
       go_must (refine wpList_append_text' rfl (.tmp 12) (.tmp 13) _ _ rfl B 5 j Tryd.underlying50 Tryd.underlying9 I.out.1 I.out.2.1 I.out.2.2.1 I.out.2.2.2 (.slice va l.length vc) l rfl (by exact HB.out.2.2) s rfl (by unfold maxLen; omega) (by omega) (by omega) ?_)
       intro xa xn xc w2 hown hgr
       have hb2 : Blk w2 b 53 #[p, .slice va l.length vc] := HB.out.2.1.grown hgr (fun e => own_ne HB.out.2.2 HB.out.2.1 (by decide) e.symm)
       have d1 := hb2.cell (i := 1) rfl
       have f1 := hb2.frozen 1
       have H2 := zH (And.intro hb2 (And.intro hown hgr))
       clear hb2 hown hgr c1 hlt))
  go_ret2
  obtain ⟨hp, hbk, hown0⟩ := HB.out
  obtain ⟨hb2, hown, hgr⟩ := H2.out
  exact ⟨rfl, ⟨hBb, _, _, hp, hb2.set_ 1 _, hown.setOther (own_ne hown hb2 (by decide)) _⟩, (H1.out.1.trans (below_of_grown hown0 (by omega) hgr)).setCell (p := ⟨b, 1, none⟩) hBb _, (H1.out.2.trans (KeptBut.of_grown hown0 hgr)).trans (KeptBut.of_set 1 _)⟩
theorem BuiltSt.lib {w : World} {B b : Nat} {l : List Nat} (h : BuiltSt w B b l) : Lib.IsBuilderF 53 5 B b (Lib.byteCells (l.map UInt8.ofNat)) w := by
  obtain ⟨hB, p, v, hp, hbk, hown⟩ := h
  have hne := own_ne hown hbk (by decide)
  obtain ⟨xs, h1, h2⟩ := hown
  obtain ⟨rfl, hb⟩ := byteRow h2
  have he : Lib.byteCells (l.map UInt8.ofNat) = l.map (fun (n : Nat) => Value.int .u8 (n : Int)) := by
    unfold Lib.byteCells
    rw [List.map_map]
    apply List.map_congr_left
    intro n hn
    have := hb n hn
    simp [Nat.mod_eq_of_lt this]
  rw [he]
  have key : Lib.BuilderAtF 53 5 B b p (l.map (fun (n : Nat) => Value.int .u8 (n : Int))) w := ⟨hB, v, hbk, by rw [List.length_map]; exact World.ownsRowF_of h1, hne⟩
  rcases hp with rfl | rfl
  · exact .inl key
  · exact .inr key
theorem built_len {w : World} {B b : Nat} {l : List Nat} (h : BuiltSt w B b l) : Calls Tryd.prog 24 #[.pointer (some ⟨b, 0, none⟩)] w fun e w' => e = .returned (.int .i64 (l.length : Int)) ∧ w' = w := by
  obtain ⟨hB, p, v, hp, hbk, hown⟩ := h
  obtain ⟨va, vc, rfl⟩ := hown.form
  have c1 := hbk.cell (i := 1) rfl
  clear hbk hown hp
  go_enter Tryd.func24, Tryd.ntmps24
  go_wp2
  go_ret
  exact ⟨rfl, rfl⟩
theorem built_text {w : World} {B b : Nat} {l : List Nat} (h : BuiltSt w B b l) (hBw : B ≤ w.heap.size) : Calls Tryd.prog 25 #[.pointer (some ⟨b, 0, none⟩)] w fun e w' => e = .returned (.string (txt l)) ∧ Below B w w' :=
  (Go.Proofs.Tryd.Builder_String_any_k B b (l.map UInt8.ofNat) w h.lib hBw).mono fun _ _ ⟨h1, _, h2, _⟩ => ⟨h1, h2⟩
end Go.Proofs.YtpkggobhhieeoaaDoor
