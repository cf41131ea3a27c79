/- Texts as lists of numbers, and byte rows that read as such lists, over whatever program. -/
import Derived.Test.YtdkoafmgenbkbaaDoorOwn
import Derived.Lib.AppendStr
import Derived.Laws.BytesString
import Derived.Laws.IdiomStrings
namespace Go.Proofs.YtdkoafmgenbkbaaDoor
set_option linter.unusedSimpArgs false
set_option linter.unusedVariables false
open Go.RowKit

/-- a text's bytes, as numbers -/
def bs (s : ByteArray) : List Nat := s.data.toList.map UInt8.toNat
/-- a text, of numbers -/
def txt (l : List Nat) : ByteArray := ⟨(l.map UInt8.ofNat).toArray⟩
def Bytes (l : List Nat) : Prop := ∀ n ∈ l, n < 256

theorem bs_len (s : ByteArray) : (bs s).length = s.size := by
  unfold bs
  rw [List.length_map, Array.length_toList]
  rfl
theorem bs_at {s : ByteArray} {i : Nat} (h : i < s.size) : (bs s)[i]? = some (s[i]'h).toNat := by
  have h' : i < s.data.size := h
  have e : s[i]'h = s.data[i]'h' := rfl
  rw [e]
  unfold bs
  rw [List.getElem?_map, Array.getElem?_toList, Array.getElem?_eq_getElem h']
  rfl
theorem bs_bytes (s : ByteArray) : Bytes (bs s) := by
  intro n h
  simp only [bs, List.mem_map] at h
  obtain ⟨b, _, rfl⟩ := h
  exact b.toNat_lt
theorem txt_bs (s : ByteArray) : txt (bs s) = s := by
  obtain ⟨⟨l⟩⟩ := s
  simp [txt, bs, Function.comp_def]
theorem bs_txt {l : List Nat} (h : Bytes l) : bs (txt l) = l := by
  simp only [txt, bs, List.toList_toArray, List.map_map]
  conv => rhs; rw [← List.map_id l]
  apply List.map_congr_left
  intro n hn
  have := h n hn
  simp [Nat.mod_eq_of_lt this]
theorem bs_append (s t : ByteArray) : bs (s ++ t) = bs s ++ bs t := by
  have : (s ++ t).data = s.data ++ t.data := ByteArray.data_append ..
  simp [bs, this]
theorem bs_inj {s t : ByteArray} (h : bs s = bs t) : s = t := by rw [← txt_bs s, ← txt_bs t, h]
theorem txt_size (l : List Nat) : (txt l).size = l.length := by simp [txt, ByteArray.size]
theorem bs_extract (s : ByteArray) (i j : Nat) : bs (s.extract i j) = ((bs s).take j).drop i := by
  have : (s.extract i j).data = s.data.extract i j := ByteArray.data_extract ..
  simp [bs, this, List.extract_eq_take_drop, List.map_take, List.map_drop, List.drop_take]
theorem bytes_nil : Bytes [] := fun n h => by simp at h
theorem bytes_app {l m : List Nat} (h : Bytes l) (k : Bytes m) : Bytes (l ++ m) := fun n hn => by
  rcases List.mem_append.1 hn with h' | h'
  · exact h n h'
  · exact k n h'

/-- a byte's cell -/
def IsByte (x : List Value) (n : Nat) : Prop := x = [.int .u8 (n : Int)] ∧ n < 256
theorem IsByte.one (x : List Value) (n : Nat) (h : IsByte x n) : ∀ u ∈ x, u.oneCell' = true := by
  intro u hu
  rw [h.1] at hu
  simp at hu
  subst hu
  rfl
theorem byteRow {xs : List Value} {l : List Nat} (h : FlatR 1 IsByte xs l) : xs = l.map (fun (n : Nat) => Value.int .u8 (n : Int)) ∧ Bytes l := by
  obtain ⟨h1, h2⟩ := h
  have h1' : xs.length = l.length := by omega
  refine ⟨List.ext_getElem? fun i => ?_, fun n hn => ?_⟩
  · by_cases hi : i < l.length
    · have hy : l[i]? = some l[i] := List.getElem?_eq_getElem hi
      have := (h2 i _ hy).1
      rw [Nat.mul_one, List.drop_eq_getElem_cons (by omega), List.take_succ_cons, List.take_zero] at this
      rw [List.getElem?_eq_getElem (by omega), List.getElem?_map, hy]
      injection this with e2 _
      rw [e2]
      rfl
    · rw [List.getElem?_eq_none (by omega), List.getElem?_eq_none (by simp; omega)]
  · obtain ⟨i, hi⟩ := List.mem_iff_getElem?.1 hn
    exact (h2 i n hi).2
theorem byteRow_mk {l : List Nat} (h : Bytes l) : FlatR 1 IsByte (l.map (fun (n : Nat) => Value.int .u8 (n : Int))) l := by
  refine ⟨by simp, fun i y hy => ?_⟩
  have hi : i < l.length := (List.getElem?_eq_some_iff.1 hy).1
  have hm : i < (l.map (fun (n : Nat) => Value.int .u8 (n : Int))).length := by simpa using hi
  rw [Nat.mul_one, List.drop_eq_getElem_cons hm]
  refine ⟨by simp [(List.getElem?_eq_some_iff.1 hy).2], h y (List.mem_iff_getElem?.2 ⟨i, hy⟩)⟩
theorem strCells_eq (s : ByteArray) : Lib.strCells s = (bs s).map (fun (n : Nat) => Value.int .u8 (n : Int)) := by
  simp [Lib.strCells, bs, Function.comp_def]

section
variable {P : Program}
/-- 'string(b)' of a byte row of the call's own -/
theorem run_text_of_row {w : World} {base : Nat} {v : Value} {l : List Nat} (src dst e : TypeId) (hs : P.underlying src = some (.slice e)) (he : P.underlying e = some (.int .u8)) (hd : P.underlying dst = some .string) (h : Own1 w base e 1 IsByte v l) :
    (convert src dst v).run P w = .ok (.string (txt l)) w := by
  obtain ⟨xs, h1, h2⟩ := h
  obtain ⟨rfl, hb⟩ := byteRow h2
  rcases h1.2 with ⟨rfl, h0⟩ | ⟨g, cap, cur, rfl, _⟩
  · have : l = [] := List.eq_nil_of_length_eq_zero h0
    subst this
    rw [run_convert_bytes_string w src dst e none 0 0 hs he hd]
    rfl
  · have hl : (l.map UInt8.ofNat).length = l.length := by simp
    have hcell := h1.cells (g := g) rfl
    have := run_convert_bytes_back (P := P) w src dst e ⟨g, 0, none⟩ cap (l.map UInt8.ofNat) hs he hd (fun j hj => by
      have hj' : j < l.length := by simpa using hj
      have hn : l[j] < 256 := hb _ (List.getElem_mem hj')
      refine hcell j _ ?_
      simp [List.getElem?_eq_getElem hj', Nat.mod_eq_of_lt hn])
    rw [hl] at this
    exact this
theorem below_of_grown {α : Type} {w w' : World} {base size : Nat} {e : TypeId} {R : List Value → α → Prop} {v : Value} {l : List α} (h : Own1 w base e size R v l) (hb : base ≤ w.heap.size) (hg : w.grownBy w' v.ownBlock) : Below base w w' :=
  (Below.refl base w).grown hg hb (fun g hg => (h.block g hg).1)
/-- 'append(b, s...)' onto a byte row of the call's own -/
theorem wpList_append_text {ops : Array Oper} {rest : List Oper} {o : Oper} {a : Act} {Q : Exit → Act → World → Prop} {w : World} (hgd : o.guard = none) (sl x : Operand) (t u : TypeId)
    (ho : o.op = .call { callee := .builtin .append, args := #[sl, x], argTypes := #[t, u] })
    (base : Nat) (e : TypeId) (i : TypeInfo) (ht : P.underlying t = some (.slice e)) (hu : P.underlying u = some .string) (hi : P.info? e = some i) (hz : i.zero = some (.int .u8 0))
    (hsize : i.size = 1) (hby : i.bytes = 1)
    (v : Value) (l : List Nat) (hs : a.eval sl = v) (hown : Own1 w base e 1 IsByte v l) (s : ByteArray) (hx : a.eval x = .string s)
    (h63 : l.length + s.size ≤ maxLen) (hbytes : l.length + s.size ≤ 140737488355328) (hbase : base ≤ w.heap.size)
    (h : ∀ (a' : Option Addr) (n' c' : Nat) w', Own1 w' base e 1 IsByte (.slice a' n' c') (l ++ bs s) → Below base w w' → wpList P ops Q rest (a.put o.dst (.slice a' n' c')) w') : wpList P ops Q (o :: rest) a w := by
  have hown0 := hown
  obtain ⟨xs, h1, h2⟩ := hown
  obtain ⟨rfl, hb⟩ := byteRow h2
  refine Lib.wpList_append_own_string w hgd sl x t u ho base e i ht hu hi hz hsize hby v l.length _ hs h1 s hx h63 hbytes hbase (fun v' w' g1 g2 _ => ?_)
  rw [strCells_eq, ← List.map_append] at g1
  have hl : (l ++ bs s).length = l.length + s.size := by rw [List.length_append, bs_len]
  have hown : Own1 w' base e 1 IsByte v' (l ++ bs s) := ⟨_, by rw [hl]; exact g1, byteRow_mk (bytes_app hb (bs_bytes s))⟩
  obtain ⟨a', c', rfl⟩ := hown.form
  exact h _ _ _ w' hown (below_of_grown hown0 hbase g2)
/-- 'append(b, ..)' of bytes that are read onto a byte row of the call's own -/
theorem wpList_append_bytes {ops : Array Oper} {rest : List Oper} {o : Oper} {a : Act} {Q : Exit → Act → World → Prop} {w : World} (hgd : o.guard = none) (s x : Operand) (t : TypeId)
    (ho : o.op = .call { callee := .builtin .append, args := #[s, x], argTypes := #[t, t] })
    (base B : Nat) (e : TypeId) (i : TypeInfo) (ht : P.underlying t = some (.slice e)) (hi : P.info? e = some i) (hz : i.zero = some (.int .u8 0)) (hsize : i.size = 1) (hby : i.bytes = 1)
    {l m : List Nat} (v : Value) (hs : a.eval s = v) (hown : Own1 w base e 1 IsByte v l) (A : Option Addr) (n c : Nat) (hx : a.eval x = .slice A n c) (hsrc : SlR w B 1 IsByte (.slice A n c) m)
    (hfit : l.length + n ≤ 140737488355328) (hbase : base ≤ w.heap.size)
    (h : ∀ (a' : Option Addr) (n' c' : Nat) w', Own1 w' base e 1 IsByte (.slice a' n' c') (l ++ m) → Below base w w' → wpList P ops Q rest (a.put o.dst (.slice a' n' c')) w') : wpList P ops Q (o :: rest) a w :=
  wpList_append_list hgd s x t ho base B e i _ 1 1 ht hi hz hsize hby rfl (by omega) v hs hown A n c hx hsrc _ rfl IsByte.one (by unfold maxLen; omega) (by omega) hbase (fun a' c' w' h1 h2 => h a' _ c' w' h1 (below_of_grown hown hbase h2))
theorem step_append_bytes {ops : Array Oper} {o : Oper} {a : Act} {K : Act → World → Prop} {Q : Exit → Act → World → Prop} {E : Prop} {w : World} (hgd : o.guard = none) (s x : Operand) (t : TypeId)
    (ho : o.op = .call { callee := .builtin .append, args := #[s, x], argTypes := #[t, t] })
    (base B : Nat) (e : TypeId) (i : TypeInfo) (ht : P.underlying t = some (.slice e)) (hi : P.info? e = some i) (hz : i.zero = some (.int .u8 0)) (hsize : i.size = 1) (hby : i.bytes = 1)
    {l m : List Nat} (v : Value) (hs : a.eval s = v) (hown : Own1 w base e 1 IsByte v l) (A : Option Addr) (n c : Nat) (hx : a.eval x = .slice A n c) (hsrc : SlR w B 1 IsByte (.slice A n c) m)
    (hfit : l.length + n ≤ 140737488355328) (hbase : base ≤ w.heap.size)
    (h : ∀ (a' : Option Addr) (n' c' : Nat) w', Own1 w' base e 1 IsByte (.slice a' n' c') (l ++ m) → Below base w w' → K (a.put o.dst (.slice a' n' c')) w') : if Region.wanted o (yielded ops a.tmps) = true then Oper.wp P o a w K Q else E :=
  step_append_list hgd s x t ho base B e i _ 1 1 ht hi hz hsize hby rfl (by omega) v hs hown A n c hx hsrc _ rfl IsByte.one (by unfold maxLen; omega) (by omega) hbase (fun a' c' w' h1 h2 => h a' _ c' w' h1 (below_of_grown hown hbase h2))
/-- the row of a literal of bytes -/
theorem own_bytes {w : World} {base g : Nat} {e : TypeId} {l : List Nat} {xs : List Value} (hg : g = w.heap.size) (hb : base ≤ w.heap.size) (hx : xs = l.map (fun (n : Nat) => Value.int .u8 (n : Int))) (hl : Bytes l) (hm : l.length ≤ maxLen) (n c : Nat) (hn : n = l.length) (hc : c = l.length) :
    Own1 (w.alloc (.cells xs.toArray e)) base e 1 IsByte (.slice (some ⟨g, 0, none⟩) n c) l := by
  subst hg hx hn hc
  refine ⟨l.map (fun (n : Nat) => Value.int .u8 (n : Int)), ⟨by simp, .inr ⟨w.heap.size, l.length, (l.map (fun (n : Nat) => Value.int .u8 (n : Int))).toArray, rfl, hb, heap_alloc_new w _, Nat.le_refl _, hm, by simp, by simp [List.take_of_length_le]⟩⟩, byteRow_mk hl⟩
theorem bytes_row {w : World} {g : Nat} {e : TypeId} {l : List Nat} {xs : List Value} (hg : g = w.heap.size) (hx : xs = l.map (fun (n : Nat) => Value.int .u8 (n : Int))) (hl : Bytes l) (hm : l.length ≤ maxLen) (n c : Nat) (hn : n = l.length) (hc : c = l.length) :
    SlR (w.alloc (.cells xs.toArray e)) (w.heap.size + 1) 1 IsByte (.slice (some ⟨g, 0, none⟩) n c) l := by
  have := (own_bytes (base := 0) hg (Nat.zero_le _) hx hl hm n c hn hc (e := e)).read (by omega)
  rw [World.size_alloc] at this
  exact this
end
end Go.Proofs.YtdkoafmgenbkbaaDoor
