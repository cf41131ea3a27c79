/- Chapter 09: a scope under way, in memory: its box, the bound names, the kinds, the free names. -/
import Derived.Test.YtidkbodmiegbkaaGreatDoorKdQ
import Derived.Maps.OwnOps
import Derived.Maps.OwnSet
namespace Go.Proofs.YtidkbodmiegbkaaGreatDoor
set_option linter.unusedSimpArgs false
set_option linter.unusedVariables false
open Go.RowKit

theorem lawS : Maps.Keyed Tryz.prog 9 := Maps.string_keyed Tryz.underlying9
theorem zeroI (w : World) : (zeroValue 3).run Tryz.prog w = .ok (.int .i64 0) w := by kernel_rfl
def keyS (s : List Nat) : Lit := .string (txt s).data.toList
theorem keyS_inj {s s' : List Nat} (h : Bytes s) (h' : Bytes s') (e : keyS s = keyS s') : s = s' := by
  unfold keyS at e
  injection e with e
  have e2 : txt s = txt s' := by
    have : (txt s).data = (txt s').data := Array.toList_inj.1 e
    cases hs : txt s; cases hs' : txt s'
    rw [hs, hs'] at this
    simp only at this
    rw [this]
  rw [← bs_txt h, ← bs_txt h', e2]
theorem keyS_of {s : List Nat} (hl : s.length ≤ 140737488355328) : keyOf Tryz.prog 9 (.string (txt s)) = some (keyS s) := WideMaps.keyOf_string_mk Tryz.underlying9 (by rw [txt_size]; unfold maxLen; omega)
/-- a name as memory may hold it -/
def NameOk (s : List Nat) : Prop := Bytes s ∧ s.length ≤ 140737488355328
/-- the map in block b tells c of each name -/
def MapAt (w : World) (b n : Nat) (c : List Nat → Int) : Prop := ∃ D : DataW Unit, w.ownsMap Tryz.prog 9 (plainElem Tryz.prog 3) b n D ∧ Maps.Tidy D ∧ ∀ s, NameOk s → D.atKey (keyS s) (.lit (.int .i64 0)) = .lit (.int .i64 (c s))
/-- .. and has just those of which it tells not 0 -/
def MapIs (w : World) (b n : Nat) (c : List Nat → Int) : Prop := ∃ D : DataW Unit, w.ownsMap Tryz.prog 9 (plainElem Tryz.prog 3) b n D ∧ Maps.Tidy D ∧ ∀ s, NameOk s → D.atKey (keyS s) (.lit (.int .i64 0)) = .lit (.int .i64 (c s)) ∧ Maps.has D (keyS s) = decide (c s ≠ 0)
theorem MapIs.at_ {w : World} {b n : Nat} {c : List Nat → Int} (h : MapIs w b n c) : MapAt w b n c := let ⟨D, h1, h2, h3⟩ := h; ⟨D, h1, h2, fun s hs => (h3 s hs).1⟩
theorem ownsMap_block {w w' : World} {b n : Nat} {D : DataW Unit} (h : w.ownsMap Tryz.prog 9 (plainElem Tryz.prog 3) b n D) (hb : w'.heap[b]? = w.heap[b]?) : w'.ownsMap Tryz.prog 9 (plainElem Tryz.prog 3) b n D := by
  obtain ⟨es, clock, h1, F, h2, h3⟩ := h
  exact ⟨es, clock, hb.trans h1, F, h2, h3⟩
section
variable {w w' : World} {b n : Nat} {c : List Nat → Int}
theorem MapIs.block (h : MapIs w b n c) (hb : w'.heap[b]? = w.heap[b]?) : MapIs w' b n c := let ⟨D, h1, h2, h3⟩ := h; ⟨D, ownsMap_block h1 hb, h2, h3⟩
theorem MapIs.lt (h : MapIs w b n c) : b < w.heap.size := let ⟨_, h1, _⟩ := h; h1.lt
theorem MapIs.mono (h : MapIs w b n c) {m : Nat} (hm : n ≤ m) : MapIs w b m c := let ⟨D, h1, h2, h3⟩ := h; ⟨D, h1.mono hm, h2, h3⟩
theorem MapIs.same (h : MapIs w b n c) {c' : List Nat → Int} (e : ∀ s, NameOk s → c' s = c s) : MapIs w b n c' := let ⟨D, h1, h2, h3⟩ := h; ⟨D, h1, h2, fun s hs => by rw [e s hs]; exact h3 s hs⟩
theorem MapAt.look (h : MapAt w b n c) {s : List Nat} (hs : NameOk s) : (Instr.lookup 51 (.map (some b)) (.string (txt s)) false).run Tryz.prog w = .ok (.int .i64 (c s)) w := by
  obtain ⟨D, h1, h2, h3⟩ := h
  obtain ⟨x, hrun, hat, _⟩ := h1.lookup_int lawS Tryz.underlying51 Tryz.underlying3 (zeroI w) (keyS_of hs.2)
  have := (h3 s hs).symm.trans hat
  simp only [DataW.lit.injEq, Lit.int.injEq, true_and] at this
  rw [this]
  exact hrun
theorem MapIs.make (w : World) : MapIs (w.alloc (.map #[] 0)) w.heap.size 0 (fun _ => 0) := ⟨.map [], World.ownsMap_made w _ _ _, Maps.tidy_empty, fun s _ => ⟨rfl, rfl⟩⟩
/-- what a store leaves -/
theorem MapAt.put {D : DataW Unit} {s : List Nat} {v : Int} (hs : NameOk s) (h1 : w'.ownsMap Tryz.prog 9 (plainElem Tryz.prog 3) b n (D.put (keyS s) (.lit (.int .i64 v)))) (h2 : Maps.Tidy D) (h3 : ∀ s, NameOk s → D.atKey (keyS s) (.lit (.int .i64 0)) = .lit (.int .i64 (c s))) : MapAt w' b n (fun x => if x = s then v else c x) := by
  refine ⟨_, h1, h2.put (lawS.key (keyS_of hs.2)) _, fun x hx => ?_⟩
  show _ = DataW.lit (Lit.int IntKind.i64 (if x = s then v else c x))
  by_cases e : x = s
  · subst e; rw [if_pos rfl]; exact Maps.atKey_put_same h2.isMap (lawS.key (keyS_of hs.2)) _ _
  · rw [if_neg e, Maps.atKey_put_other (fun k => e (keyS_inj hx.1 hs.1 k))]; exact h3 x hx
theorem MapIs.put {D : DataW Unit} {s : List Nat} {v : Int} (hs : NameOk s) (hv : v ≠ 0) (h1 : w'.ownsMap Tryz.prog 9 (plainElem Tryz.prog 3) b n (D.put (keyS s) (.lit (.int .i64 v)))) (h2 : Maps.Tidy D) (h3 : ∀ s, NameOk s → D.atKey (keyS s) (.lit (.int .i64 0)) = .lit (.int .i64 (c s)) ∧ Maps.has D (keyS s) = decide (c s ≠ 0)) : MapIs w' b n (fun x => if x = s then v else c x) := by
  refine ⟨_, h1, h2.put (lawS.key (keyS_of hs.2)) _, fun x hx => ?_⟩
  show _ = DataW.lit (Lit.int IntKind.i64 (if x = s then v else c x)) ∧ _ = decide ((if x = s then v else c x) ≠ 0)
  by_cases e : x = s
  · subst e; rw [if_pos rfl]; exact ⟨Maps.atKey_put_same h2.isMap (lawS.key (keyS_of hs.2)) _ _, by rw [Maps.has_put_same h2.isMap (lawS.key (keyS_of hs.2))]; simp [hv]⟩
  · have hk : keyS x ≠ keyS s := fun k => e (keyS_inj hx.1 hs.1 k)
    rw [if_neg e, Maps.atKey_put_other hk, Maps.has_put_other hk]; exact h3 x hx
theorem MapIs.del {D : DataW Unit} {s : List Nat} (hs : NameOk s) (h1 : w'.ownsMap Tryz.prog 9 (plainElem Tryz.prog 3) b n (D.del (keyS s))) (h2 : Maps.Tidy D) (h3 : ∀ x, NameOk x → x ≠ s → D.atKey (keyS x) (.lit (.int .i64 0)) = .lit (.int .i64 (c x)) ∧ Maps.has D (keyS x) = decide (c x ≠ 0)) (h0 : c s = 0) : MapIs w' b n c := by
  refine ⟨_, h1, h2.del _, fun x hx => ?_⟩
  by_cases e : x = s
  · subst e; rw [Maps.atKey_del_same, Maps.has_del_same, h0]; simp
  · have hk : keyS x ≠ keyS s := fun k => e (keyS_inj hx.1 hs.1 k)
    rw [Maps.atKey_del_other hk, Maps.has_del_other hk]; exact h3 x hx e
end
/-- .. and its keys are names (for the range over it) -/
def MapIsF (w : World) (b n : Nat) (c : List Nat → Int) : Prop := ∃ D : DataW Unit, w.ownsMap Tryz.prog 9 (plainElem Tryz.prog 3) b n D ∧ Maps.Tidy D ∧ (∀ s, NameOk s → D.atKey (keyS s) (.lit (.int .i64 0)) = .lit (.int .i64 (c s)) ∧ Maps.has D (keyS s) = decide (c s ≠ 0)) ∧ ∀ kl, Maps.has D kl = true → ∃ s, NameOk s ∧ kl = keyS s
theorem MapIsF.is {w : World} {b n : Nat} {c : List Nat → Int} (h : MapIsF w b n c) : MapIs w b n c := let ⟨D, h1, h2, h3, _⟩ := h; ⟨D, h1, h2, h3⟩
theorem MapIsF.at_ {w : World} {b n : Nat} {c : List Nat → Int} (h : MapIsF w b n c) : MapAt w b n c := h.is.at_
theorem MapIsF.block {w w' : World} {b n : Nat} {c : List Nat → Int} (h : MapIsF w b n c) (hb : w'.heap[b]? = w.heap[b]?) : MapIsF w' b n c := let ⟨D, h1, h2, h3, h4⟩ := h; ⟨D, ownsMap_block h1 hb, h2, h3, h4⟩
theorem MapIsF.lt {w : World} {b n : Nat} {c : List Nat → Int} (h : MapIsF w b n c) : b < w.heap.size := h.is.lt
theorem MapIsF.mono {w : World} {b n : Nat} {c : List Nat → Int} (h : MapIsF w b n c) {m : Nat} (hm : n ≤ m) : MapIsF w b m c := let ⟨D, h1, h2, h3, h4⟩ := h; ⟨D, h1.mono hm, h2, h3, h4⟩
theorem MapIsF.same {w : World} {b n : Nat} {c : List Nat → Int} (h : MapIsF w b n c) {c' : List Nat → Int} (e : ∀ s, NameOk s → c' s = c s) : MapIsF w b n c' := let ⟨D, h1, h2, h3, h4⟩ := h; ⟨D, h1, h2, fun s hs => by rw [e s hs]; exact h3 s hs, h4⟩
theorem MapIsF.put {w' : World} {b n : Nat} {c : List Nat → Int} {D : DataW Unit} {s : List Nat} {v : Int} (hs : NameOk s) (hv : v ≠ 0) (h1 : w'.ownsMap Tryz.prog 9 (plainElem Tryz.prog 3) b n (D.put (keyS s) (.lit (.int .i64 v)))) (h2 : Maps.Tidy D) (h3 : ∀ s, NameOk s → D.atKey (keyS s) (.lit (.int .i64 0)) = .lit (.int .i64 (c s)) ∧ Maps.has D (keyS s) = decide (c s ≠ 0)) (h4 : ∀ kl, Maps.has D kl = true → ∃ s, NameOk s ∧ kl = keyS s) : MapIsF w' b n (fun x => if x = s then v else c x) := by
  refine ⟨_, h1, h2.put (lawS.key (keyS_of hs.2)) _, fun x hx => ?_, fun kl hkl => ?_⟩
  · show _ = DataW.lit (Lit.int IntKind.i64 (if x = s then v else c x)) ∧ _ = decide ((if x = s then v else c x) ≠ 0)
    by_cases e : x = s
    · subst e; rw [if_pos rfl]; exact ⟨Maps.atKey_put_same h2.isMap (lawS.key (keyS_of hs.2)) _ _, by rw [Maps.has_put_same h2.isMap (lawS.key (keyS_of hs.2))]; simp [hv]⟩
    · have hk : keyS x ≠ keyS s := fun k => e (keyS_inj hx.1 hs.1 k)
      rw [if_neg e, Maps.atKey_put_other hk, Maps.has_put_other hk]; exact h3 x hx
  · by_cases e : kl = keyS s
    · exact ⟨s, hs, e⟩
    · rw [Maps.has_put_other e] at hkl; exact h4 kl hkl
section
open Go.Maps
variable {ops : Array Oper} {rest : List Oper} {o : Oper} {a : Act} {Q : Exit → Act → World → Prop} {w : World} {b n : Nat} {c : List Nat → Int} {s : List Nat}
theorem wpList_look (hg : o.guard = none) (m x : Operand) (hop : o.op = Op.lookup 51 m x false) (h : MapAt w b n c) (hs : NameOk s) (hm : a.eval m = .map (some b)) (hx : a.eval x = .string (txt s)) (hK : wpList Tryz.prog ops Q rest (a.put o.dst (.int .i64 (c s))) w) : wpList Tryz.prog ops Q (o :: rest) a w := by
  obtain ⟨D, h1, h2, h3⟩ := h
  refine wpList_lookup_own_int w hg m x 51 hop 9 3 .i64 lawS Tryz.underlying51 Tryz.underlying3 (zeroI w) b n D hm h1 _ (keyS s) hx (keyS_of hs.2) (fun y hat _ => ?_)
  have := (h3 s hs).symm.trans hat
  simp only [DataW.lit.injEq, Lit.int.injEq, true_and] at this
  rw [← this]
  exact hK
theorem wpList_put (hg : o.guard = none) (m x v : Operand) (hop : o.op = Op.mapUpdate 51 m x v) (h : MapIs w b n c) (hs : NameOk s) (hn : n < maxLen) (u : Int) (hu : u ≠ 0) (hwf : (Lit.int .i64 u).wf = true) (hm : a.eval m = .map (some b)) (hx : a.eval x = .string (txt s)) (hv : a.eval v = .int .i64 u) (hK : ∀ w', MapIs w' b (n + 1) (fun x => if x = s then u else c x) → w.grownBy w' (some b) → wpList Tryz.prog ops Q rest (a.put o.dst undef) w') : wpList Tryz.prog ops Q (o :: rest) a w := by
  obtain ⟨D, h1, h2, h3⟩ := h
  exact wpList_mapUpdate_own w hg m x v 51 hop 9 3 lawS Tryz.underlying51 _ b n D hm h1 hn _ _ (keyS s) hx hv (keyS_of hs.2) (.lit (.int .i64 u)) [] (plainElem_int Tryz.underlying3 hwf) (fun w' r1 r2 => hK w' (MapIs.put hs hu r1 h2 h3) r2)
theorem wpList_putF (hg : o.guard = none) (m x v : Operand) (hop : o.op = Op.mapUpdate 51 m x v) (h : MapIsF w b n c) (hs : NameOk s) (hn : n < maxLen) (u : Int) (hu : u ≠ 0) (hwf : (Lit.int .i64 u).wf = true) (hm : a.eval m = .map (some b)) (hx : a.eval x = .string (txt s)) (hv : a.eval v = .int .i64 u) (hK : ∀ w', MapIsF w' b (n + 1) (fun x => if x = s then u else c x) → w.grownBy w' (some b) → wpList Tryz.prog ops Q rest (a.put o.dst undef) w') : wpList Tryz.prog ops Q (o :: rest) a w := by
  obtain ⟨D, h1, h2, h3, h4⟩ := h
  exact wpList_mapUpdate_own w hg m x v 51 hop 9 3 lawS Tryz.underlying51 _ b n D hm h1 hn _ _ (keyS s) hx hv (keyS_of hs.2) (.lit (.int .i64 u)) [] (plainElem_int Tryz.underlying3 hwf) (fun w' r1 r2 => hK w' (MapIsF.put hs hu r1 h2 h3 h4) r2)
end
def INTS (K : List Int) : Array Value := (K.map fun x => Value.int .i64 x).toArray
/-- how often each name is bound -/
def cntV (vs : List (List Nat)) (s : List Nat) : Int := (vs.count s : Int)
def freeV (F : List (List Nat)) (s : List Nat) : Int := if s ∈ F then 1 else 0
theorem Blk.differ {W : World} {b b' : Nat} {t t' : TypeId} {cs cs' : Array Value} (h : Blk W b t cs) (h' : Blk W b' t' cs') (hne : t ≠ t') : b ≠ b' := fun e => by
  subst e
  unfold Blk at h h'
  rw [h] at h'
  injection h' with h'
  injection h' with _ e2 _
  exact hne e2
/-- the scope -/
structure KSt (W : World) (g bm kb fm nb nf : Nat) (lv : Value) (K : List Int) (vs F : List (List Nat)) : Prop where
  blk : Blk W g 53 #[lv, .map (some bm), .slice (some ⟨kb, 0, none⟩) K.length K.length, .map (some fm)]
  kin : Blk W kb 3 (INTS K)
  bnd : MapIs W bm nb (cntV vs)
  fre : MapIsF W fm nf (freeV F)
  hne : bm ≠ fm
/-- what stays: all below C, and all that is neither of the scope's three blocks -/
structure NK (W w' : World) (C bm kb fm : Nat) : Prop where
  bel : Below C W w'
  oth : ∀ i, i < W.heap.size → i ≠ bm → i ≠ kb → i ≠ fm → w'.heap[i]? = W.heap[i]?
section
variable {W w1 w' : World} {C bm kb fm : Nat}
theorem NK.refl : NK W W C bm kb fm := ⟨Below.refl _ _, fun _ _ _ _ _ => rfl⟩
theorem NK.trans (h : NK W w1 C bm kb fm) (k : NK w1 w' C bm kb fm) : NK W w' C bm kb fm := ⟨h.bel.trans k.bel, fun i hi h1 h2 h3 => (k.oth i (Nat.lt_of_lt_of_le hi h.bel.size) h1 h2 h3).trans (h.oth i hi h1 h2 h3)⟩
theorem NK.of_below (h : Below W.heap.size W w') (hC : C ≤ W.heap.size) : NK W w' C bm kb fm := ⟨h.mono hC, fun i hi _ _ _ => h.block i hi⟩
theorem NK.of_grown {r : Nat} (h : W.grownBy w' (some r)) (hr : r = bm ∨ r = kb ∨ r = fm) (hC : C ≤ r) (hs : C ≤ W.heap.size) : NK W w' C bm kb fm := ⟨(Below.refl C W).grown h hs (fun b hb => by injection hb with hb; omega), fun i hi h1 h2 h3 => h.block i hi (fun e => by injection e with e; rcases hr with rfl | rfl | rfl <;> contradiction)⟩
theorem NK.of_set (i : Nat) (u : Value) (hC : C ≤ kb) : NK W (W.setCell ⟨kb, i, none⟩ u) C bm kb fm := ⟨(Below.refl C W).setCell (p := ⟨kb, i, none⟩) hC u, fun j hj h1 h2 h3 => Below.heap_setCell W ⟨kb, i, none⟩ u j h2⟩
theorem NK.blk (h : NK W w' C bm kb fm) {b : Nat} {t : TypeId} {cs : Array Value} (hb : Blk W b t cs) (h1 : b ≠ bm) (h2 : b ≠ kb) (h3 : b ≠ fm) : Blk w' b t cs := (h.oth b hb.lt h1 h2 h3).trans hb
end
theorem map_blk_ne {w : World} {b b' n : Nat} {c : List Nat → Int} {t : TypeId} {cs : Array Value} (h : MapIs w b n c) (h' : Blk w b' t cs) : b' ≠ b := fun e => by
  obtain ⟨D, ⟨es, clock, h1, _⟩, _⟩ := h
  unfold Blk at h'
  rw [e, h1] at h'
  cases h'
section
variable {W w' : World} {g bm kb fm nb nf C : Nat} {lv : Value} {K : List Int} {vs F : List (List Nat)}
theorem KSt.lt (h : KSt W g bm kb fm nb nf lv K vs F) : g < W.heap.size ∧ bm < W.heap.size ∧ kb < W.heap.size ∧ fm < W.heap.size := ⟨h.blk.lt, h.bnd.lt, h.kin.lt, h.fre.lt⟩
theorem KSt.gk (h : KSt W g bm kb fm nb nf lv K vs F) : g ≠ kb := h.blk.differ h.kin (by decide)
theorem KSt.below (h : KSt W g bm kb fm nb nf lv K vs F) (hb : Below W.heap.size W w') : KSt w' g bm kb fm nb nf lv K vs F :=
  ⟨h.blk.below hb h.lt.1, h.kin.below hb h.lt.2.2.1, h.bnd.block (hb.block _ h.lt.2.1), h.fre.block (hb.block _ h.lt.2.2.2), h.hne⟩
theorem KSt.alloc (h : KSt W g bm kb fm nb nf lv K vs F) (o : Obj) : KSt (W.alloc o) g bm kb fm nb nf lv K vs F := h.below ((Below.refl _ _).alloc (Nat.le_refl _) o)
theorem KSt.drewN (h : KSt W g bm kb fm nb nf lv K vs F) (n : Nat) : KSt (W.drewN n) g bm kb fm nb nf lv K vs F := h.below (below_drewN (Below.refl _ _) n)
theorem KSt.drew (h : KSt W g bm kb fm nb nf lv K vs F) : KSt W.drew g bm kb fm nb nf lv K vs F := h.below ((Below.refl _ _).drew)
theorem KSt.mono (h : KSt W g bm kb fm nb nf lv K vs F) {nb' nf' : Nat} (h1 : nb ≤ nb') (h2 : nf ≤ nf') : KSt W g bm kb fm nb' nf' lv K vs F := ⟨h.blk, h.kin, h.bnd.mono h1, h.fre.mono h2, h.hne⟩
/-- the bound names turn -/
theorem KSt.bound (h : KSt W g bm kb fm nb nf lv K vs F) {nb' : Nat} {vs' : List (List Nat)} (hg : W.grownBy w' (some bm)) (hb : MapIs w' bm nb' (cntV vs')) : KSt w' g bm kb fm nb' nf lv K vs' F :=
  ⟨h.blk.grown hg (fun e => by injection e with e; exact map_blk_ne h.bnd h.blk e), h.kin.grown hg (fun e => by injection e with e; exact map_blk_ne h.bnd h.kin e), hb, h.fre.block (hg.block _ h.lt.2.2.2 (fun e => by injection e with e; exact h.hne e.symm)), h.hne⟩
/-- a free name more -/
theorem KSt.frees (h : KSt W g bm kb fm nb nf lv K vs F) {nf' : Nat} {F' : List (List Nat)} (hg : W.grownBy w' (some fm)) (hb : MapIsF w' fm nf' (freeV F')) : KSt w' g bm kb fm nb nf' lv K vs F' :=
  ⟨h.blk.grown hg (fun e => by injection e with e; exact map_blk_ne h.fre.is h.blk e), h.kin.grown hg (fun e => by injection e with e; exact map_blk_ne h.fre.is h.kin e), h.bnd.block (hg.block _ h.lt.2.1 (fun e => by injection e with e; exact h.hne e)), hb, h.hne⟩
/-- a kind is stored -/
theorem KSt.kind (h : KSt W g bm kb fm nb nf lv K vs F) (i : Nat) (x : Int) : KSt (W.setCell ⟨kb, i, none⟩ (.int .i64 x)) g bm kb fm nb nf lv (K.set i x) vs F := by
  have e : (INTS K).setIfInBounds i (.int .i64 x) = INTS (K.set i x) := by
    unfold INTS
    apply Array.toList_inj.1
    simp [List.map_set]
  refine ⟨by rw [List.length_set]; exact h.blk.far (p := ⟨kb, i, none⟩) h.gk _, by rw [← e]; exact h.kin.set_ i _, h.bnd.block (Below.heap_setCell W ⟨kb, i, none⟩ _ bm (fun e => map_blk_ne h.bnd h.kin e.symm)), h.fre.block (Below.heap_setCell W ⟨kb, i, none⟩ _ fm (fun e => map_blk_ne h.fre.is h.kin e.symm)), h.hne⟩
theorem KSt.cell (h : KSt W g bm kb fm nb nf lv K vs F) {i : Nat} {x : Int} (hx : K[i]? = some x) : W.cell? ⟨kb, i, none⟩ = some (.int .i64 x) := h.kin.cell (by unfold INTS; rw [List.getElem?_toArray, List.getElem?_map, hx]; rfl)
end
end Go.Proofs.YtidkbodmiegbkaaGreatDoor
