/- The map of the uses: rows of the call's own behind numbers; in plain words. -/
import Derived.Test.YtikplcpghohklaaGreatMNamed
import Derived.Test.YtikplcpghohklaaGreatMLeans
import Derived.Maps.OwnRows
import Derived.Maps.GroupsBeside
import Derived.Maps.Range
import Derived.Deep.RegionHeld3
namespace Go.Proofs.YtikplcpghohklaaGreat
set_option linter.unusedSimpArgs false
set_option linter.unusedVariables false
open Go.RowKit Go.MapKept Go.WideElems Go.ChangeShapes
open Go.ChangeMaps (setBlock)

section
variable {P : Program}
/-- 'run_append_own_at' at a step of a region that draws -/
theorem step_append_own_at {ops : Array Oper} {o : Oper} {a : Act} {K : Act → World → Prop} {Q : Exit → Act → World → Prop} {E : Prop} {w : World} (hgd : o.guard = none) (s x : Operand) (t : TypeId)
    (ho : o.op = .call { callee := .builtin .append, args := #[s, x], argTypes := #[t, t] })
    (base : Nat) (e : TypeId) (i : TypeInfo) (z : Value) (size bytes : Nat) (ht : P.underlying t = some (.slice e)) (hi : P.info? e = some i) (hz : i.zero = some z)
    (hsize : i.size = size) (hby : i.bytes = bytes) (hzs : z.cells.size = size) (hsz : 0 < size)
    (v : Value) (n : Nat) (xs : List Value) (hs : a.eval s = v) (hown : w.ownsRow base e size v n xs)
    (ad : Addr) (m c : Nat) (news : List Value) (hx : a.eval x = .slice (some ad) m c) (hl : news.length = m * size) (hnews : ∀ j u, news[j]? = some u → w.cell? (ad.add j) = some u) (h1 : ∀ u ∈ news, u.oneCell' = true)
    (h63 : n + m ≤ maxLen) (hbytes : (n + m) * bytes ≤ 140737488355328) (hbase : base ≤ w.heap.size)
    (h : ∀ v' w', w'.ownsRow base e size v' (n + m) (xs ++ news) → w.grownBy w' v.ownBlock → (v'.ownBlock = v.ownBlock ∨ v'.ownBlock = some w.heap.size) → K (a.put o.dst v') w') : if Region.wanted o (yielded ops a.tmps) = true then Oper.wp P o a w K Q else E := by
  rw [if_pos (by simp [Region.wanted, hgd])]
  obtain ⟨v', w', hr, h2, h3, _, h5⟩ := run_append_own_at (P := P) w base t o.type e i z size bytes ht hi hz hsize hby hzs hsz v n xs hown ad m c news hl hnews h1 h63 hbytes hbase
  unfold Oper.wp execOp
  simp only [ho, resolve, invoke, builtin, Sem.run_bind, Sem.run_pure, Result.andThen_ok, List.map_toArray, List.map_cons, List.map_nil, hs, hx, hr]
  exact h v' w' h2 h3 h5
end

/-- a block's number, behind a slice's value -/
theorem ownBlock_of {g off n c : Nat} : (Value.slice (some ⟨g, off, none⟩) n c).ownBlock = some g := rfl
/-- 'm[k]' on a map of rows, in whatever world its block stands so -/
theorem groups_look {P : Program} {w : World} {k t E e : TypeId} {q : IntKind} {base b n : Nat} {D : DataW Unit} {key : Value} {kl : Lit} (h : w.ownsGroups P k base e q b n D) (K : Maps.Keyed P k) (ht : P.underlying t = some (.map k E))
    (hz : ∀ W, (zeroValue E).run P W = .ok (.slice none 0 0) W) (hn : n < maxLen) (hkey : keyOf P k key = some kl) :
    ∃ v zs, (∀ W : World, W.heap[b]? = w.heap[b]? → (Instr.lookup t (.map (some b)) key false).run P W = .ok v W) ∧ D.atKey kl .nil = rowDatum q v zs ∧ w.ownsInts base e q v zs ∧ zs.length ≤ n ∧ w.groupBack P t k base e q b n D key kl v := by
  obtain ⟨v, zs, hrun, hat, hoi, hl, hback⟩ := h.at K ht (hz w) hn hkey
  refine ⟨v, zs, fun W hW => ?_, hat, hoi, hl, hback⟩
  obtain ⟨es, clock, hb, F, _⟩ := h
  have hrun2 := hrun
  rcases Maps.fit_look false K ht (hz w) hb F hkey with ⟨h1, h2, _⟩ | ⟨e0, y, h1, h2, h3, _⟩
  · rw [h1] at hrun
    have hv : v = .slice none 0 0 := by injection hrun with hv; exact hv.symm
    rcases Maps.fit_look false K ht (hz W) (hW.trans hb) F hkey with ⟨k1, _⟩ | ⟨e1, y1, k1, k2, _⟩
    · rw [k1, hv]; rfl
    · exact absurd k2 (h2 e1 k1)
  · rw [h3] at hrun
    have hv : v = e0.val := by injection hrun with hv; exact hv.symm
    rcases Maps.fit_look false K ht (hz W) (hW.trans hb) F hkey with ⟨_, k2, _⟩ | ⟨e1, y1, k1, k2, k3, _⟩
    · exact absurd h2 (k2 e0 h1)
    · have hee : e1 = e0 := entry_eq_of_key ((stamped_iff es clock).1 F.stamped).2.2 k1 h1 (k2.trans h2.symm)
      rw [k3, hv, hee]; rfl

/-- how a row of the uses reads -/
def useDat (l : List Nat) : DataW Unit := match l with
  | [] => .nil
  | _ :: _ => .slice (lits .i64 (l.map fun (n : Nat) => (n : Int))) []
theorem lits_inj {zs ys : List Int} (h : (lits .i64 zs : List (DataW Unit)) = lits .i64 ys) : zs = ys := by
  unfold lits at h
  exact (List.map_inj_right (fun a b hab => by injection hab with hab; injection hab)).1 h
theorem useDat_row {w : World} {base : Nat} {e : TypeId} {v : Value} {zs : List Int} {l : List Nat} (hoi : w.ownsInts base e .i64 v zs) (h : useDat l = rowDatum .i64 v zs) : zs = l.map fun (n : Nat) => (n : Int) := by
  rcases hoi.datum (H := Unit) with ⟨h1, h2⟩ | h1
  · rw [h1] at h
    cases l with
    | nil => exact h2
    | cons a t => cases h
  · rw [h1] at h
    cases l with
    | nil => cases h
    | cons a t =>
      injection h with h _
      exact (lits_inj h).symm
theorem useDat_more {w : World} {base : Nat} {e : TypeId} {v : Value} {l : List Nat} {q : Nat} (hoi : w.ownsInts base e .i64 v ((l ++ [q]).map fun (n : Nat) => (n : Int))) : rowDatum .i64 v ((l ++ [q]).map fun (n : Nat) => (n : Int)) = useDat (l ++ [q]) := by
  rw [hoi.datum_pos (by simp)]
  cases l <;> rfl
/-- the uses that have been taken: of the first k languages all, of the k-th one the first i -/
def usePart (us : Web) (k i j : Nat) : List Nat := if j < k then (us[j]?).getD [] else if j = k then ((us[j]?).getD []).take i else []
theorem usePart_start (us : Web) (j : Nat) : usePart us 0 0 j = [] := by
  unfold usePart
  rw [if_neg (Nat.not_lt_zero _)]
  split
  · rfl
  · rfl
theorem usePart_more {us : Web} {k i q : Nat} {u : List Nat} (hu : us[k]? = some u) (hq : u[i]? = some q) (j : Nat) : usePart us k (i + 1) j = if j = k then usePart us k i k ++ [q] else usePart us k i j := by
  unfold usePart
  by_cases e : j = k
  · subst e
    rw [if_neg (Nat.lt_irrefl _), if_pos rfl, if_neg (Nat.lt_irrefl _), if_pos rfl, if_pos rfl, hu]
    simp only [Option.getD_some]
    rw [List.take_add_one, hq]; rfl
  · rw [if_neg e, if_neg e]
    simp only [if_neg e]
theorem usePart_next {us : Web} {k i : Nat} {u : List Nat} (hu : us[k]? = some u) (hi : u.length ≤ i) (j : Nat) : usePart us (k + 1) 0 j = usePart us k i j := by
  unfold usePart
  by_cases h1 : j < k
  · rw [if_pos (by omega), if_pos h1]
  · rw [if_neg h1]
    by_cases h2 : j = k
    · subst h2
      rw [if_pos (by omega), if_pos rfl, hu]
      simp only [Option.getD_some]
      rw [List.take_of_length_le hi]
    · rw [if_neg (by omega), if_neg h2]
      split
      · simp
      · rfl
theorem usePart_end {us : Web} {k : Nat} (hk : us.length ≤ k) (j : Nat) : (us[j]?).getD [] = usePart us k 0 j := by
  unfold usePart
  by_cases h1 : j < k
  · rw [if_pos h1]
  · rw [if_neg h1, List.getElem?_eq_none (by omega)]
    split <;> rfl
/-- key and law of such a map -/
abbrev intKey (n : Nat) : Lit := .int .i64 (n : Int)
theorem intKey_ok (n : Nat) : WideAt.IsKeyLit (intKey n) := trivial
theorem law_int : Maps.Keyed Tryz.prog 3 := Maps.int_keyed Tryz.underlying3
theorem zero_ints (w : World) : (zeroValue 25).run Tryz.prog w = .ok (.slice none 0 0) w := by kernel_rfl
/-- the map of the uses holds these rows -/
def UseM (W : World) (B bu n : Nat) (g : Nat → List Nat) : Prop :=
  ∃ D : DataW Unit, Maps.IsMap D ∧ W.ownsGroups Tryz.prog 3 B 3 .i64 bu n D ∧ ∀ j : Nat, D.atKey (intKey j) .nil = useDat (g j)
theorem UseM.start {W : World} {B bu : Nat} (h : W.ownsGroups Tryz.prog 3 B 3 .i64 bu 0 (.map [] : DataW Unit)) : UseM W B bu 0 (fun _ => []) :=
  ⟨.map [], Maps.isMap_empty, h, fun _ => rfl⟩
theorem UseM.congr {W : World} {B bu n : Nat} {g g' : Nat → List Nat} (h : UseM W B bu n g) (hg : ∀ j, g' j = g j) : UseM W B bu n g' := by
  obtain ⟨D, h1, h2, h3⟩ := h
  exact ⟨D, h1, h2, fun j => by rw [h3, hg]⟩
/-- an empty map has its rows wherever one likes -/
theorem groups_rebase {P : Program} {w : World} {k e : TypeId} {q : IntKind} {base base' b : Nat} (h : w.ownsGroups P k base e q b 0 (.map [] : DataW Unit)) (hb : b < base') : w.ownsGroups P k base' e q b 0 (.map [] : DataW Unit) := by
  obtain ⟨es, clock, h1, F, hs, _, _, _, _⟩ := h
  have he : es = #[] := Array.eq_empty_of_size_eq_zero (by omega)
  subst he
  exact ⟨#[], clock, h1, ⟨F.size, F.stamped, by simp⟩, Nat.le_refl _, rfl, hb, by simp, by simp⟩
/-- it stays over whatever turns a block that is no row's and not the map's -/
theorem UseM.kept {W W' : World} {B bu n : Nat} {g : Nat → List Nat} {row : Option Nat} (h : UseM W B bu n g) (hg : W.grownBy W' row) (hne : some bu ≠ row) (hr : ∀ j, row = some j → j < B) : UseM W' B bu n g := by
  obtain ⟨D, h1, h2, h3⟩ := h
  exact ⟨D, h1, h2.kept hg hne (h2.rowsAbove hr), h3⟩
theorem UseM.lt {W : World} {B bu n : Nat} {g : Nat → List Nat} (h : UseM W B bu n g) : bu < W.heap.size ∧ bu < B := by
  obtain ⟨D, _, ⟨es, clock, hb, _, _, _, hbb, _⟩, _⟩ := h
  exact ⟨(Array.getElem?_eq_some_iff.1 hb).1, hbb⟩
/-- what the walk needs at 'm[k] = append(m[k], q)' -/
theorem UseM.look {W : World} {B bu n : Nat} {g : Nat → List Nat} (h : UseM W B bu n g) (hn : n < maxLen) (k : Nat) (hk : k ≤ 128) : ∃ D v, Maps.IsMap D ∧ (∀ j : Nat, D.atKey (intKey j) .nil = useDat (g j)) ∧
    (∀ W' : World, W'.heap[bu]? = W.heap[bu]? → (Instr.lookup 77 (.map (some bu)) (.int .i64 (k : Int)) false).run Tryz.prog W' = .ok v W') ∧ W.ownsInts B 3 .i64 v ((g k).map fun (n : Nat) => (n : Int)) ∧ (g k).length ≤ n ∧
    W.groupBack Tryz.prog 77 3 B 3 .i64 bu n D (.int .i64 (k : Int)) (intKey k) v := by
  obtain ⟨D, h1, h2, h3⟩ := h
  obtain ⟨v, zs, r1, r2, r3, r4, r5⟩ := groups_look (key := .int .i64 (k : Int)) (kl := intKey k) h2 law_int Tryz.underlying77 zero_ints hn (Maps.keyOf_int_mk Tryz.underlying3 (nat_wf (by omega)))
  rw [h3] at r2
  have hz := useDat_row r3 r2
  subst hz
  exact ⟨D, v, h1, h3, r1, r3, by simpa using r4, r5⟩
theorem UseM.more {W : World} {B bu n k q : Nat} {g : Nat → List Nat} {v : Value} {D : DataW Unit} (h1 : Maps.IsMap D) (h3 : ∀ j : Nat, D.atKey (intKey j) .nil = useDat (g j)) {W1 : World} (hoi : W1.ownsInts B 3 .i64 v ((g k ++ [q]).map fun (n : Nat) => (n : Int)))
    (h2 : W.ownsGroups Tryz.prog 3 B 3 .i64 bu n (D.put (intKey k) (rowDatum .i64 v ((g k ++ [q]).map fun (n : Nat) => (n : Int))))) : UseM W B bu n (fun j => if j = k then g k ++ [q] else g j) := by
  refine ⟨_, h1.put _ _, h2, fun j => ?_⟩
  by_cases e : j = k
  · subst e
    rw [Maps.atKey_put_same h1 (intKey_ok _), useDat_more hoi]
    simp only [if_pos]
  · rw [Maps.atKey_put_other (fun h => by injection h with _ h; omega), h3]
    simp only [if_neg e]
/-- the reading of the whole, for what comes -/
theorem UseM.usesAt {W : World} {B bu n : Nat} {us : Web} (h : UseM W B bu n (fun j => (us[j]?).getD [])) (hn : n < maxLen) (hus : us.length ≤ 128) : UsesAt W bu us := by
  intro i u hu
  have hi := (List.getElem?_eq_some_iff.1 hu).1
  obtain ⟨D, v, _, _, h3, h4, h5, _⟩ := h.look hn i (by omega)
  have hlt := h.lt.1
  simp only [hu, Option.getD_some] at h4 h5
  have hO : Own1 W B 3 1 IsInt v (u.map fun (n : Nat) => (n : Int)) := by
    refine ⟨(u.map fun (n : Nat) => (n : Int)).map (Value.int .i64), h4.1, by simp, fun i y hy => ?_⟩
    refine ⟨?_, h4.2 y (List.mem_iff_getElem?.2 ⟨i, hy⟩)⟩
    obtain ⟨hi2, hy2⟩ := List.getElem?_eq_some_iff.1 hy
    apply List.ext_getElem?
    intro m
    rcases m with _ | m
    · rw [List.getElem?_take_of_lt (by omega), List.getElem?_drop]
      simp only [Nat.mul_one, Nat.add_zero, List.getElem?_map (f := Value.int .i64), hy]
      rfl
    · simp [List.getElem?_take]
  obtain ⟨va, vc, rfl⟩ := hO.form
  rw [List.length_map] at h3 hO
  exact ⟨va, vc, fun W' hW' => h3 W' (hW'.block bu hlt), hO.read (by omega)⟩
theorem eachE_short {α : Type} {most : Nat} {f : Nat → α → Nat × Nat} {l : List α} (h : eachE most f 0 l = none) : l.length ≤ most := by
  have key : ∀ (l : List α) (k : Nat), k ≤ most → eachE most f k l = none → k + l.length ≤ most := by
    intro l
    induction l with
    | nil => intro k hk _; simpa using hk
    | cons y t ih =>
      intro k hk he
      unfold eachE at he
      split at he
      · cases he
      · split at he
        · cases he
        · have := ih (k + 1) (by omega) he
          simp; omega
  have := key l 0 (Nat.zero_le _) h
  omega
theorem eachE_err {α : Type} {most : Nat} {f : Nat → α → Nat × Nat} {l : List α} {k : Nat} {x : Nat × Nat × Nat} (h : eachE most f k l = some x) : x.2.2 ≠ 0 := by
  induction l generalizing k with
  | nil => cases h
  | cons y t ih =>
    unfold eachE at h
    split at h
    · injection h with h; subst h; simp
    · split at h
      · rename_i h2; injection h with h; subst h; exact h2
      · exact ih h
theorem uses_short {l : Language} (h : (checkE l).err = 0) : l.uses.length ≤ 8 := by
  unfold checkE at h
  split at h
  · cases h
  · split at h
    · cases h
    · split at h
      · rename_i x hx
        exact absurd h (eachE_err hx)
      · rename_i hx
        exact eachE_short hx
theorem findN_any (ls : List Language) (s : ByteArray) : (ls.any fun l => decide (l.name = s)) = decide (0 ≤ findN ls s) := (firstAt_any _ _).symm
end Go.Proofs.YtikplcpghohklaaGreat
