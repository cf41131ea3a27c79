/- Arguments that are structs and slices of structs, opened as plain Lean data, with the reach's bounds. -/
import Derived.Test.YtdhljfblkidohaaApi
import Derived.Test.YtdhljfblkidohaaProg
import Derived.SizedLaws
namespace Go.Proofs.Ytdhljfblkidohaa
set_option linter.unusedSimpArgs false
set_option linter.unusedVariables false
open Go.RowKit Go.ChangeShapes Go.WideShapes Go.Deep
set_option linter.unusedVariables false

/-- what the reach says of data -/
def Light {H : Type} (P : Program) (t : TypeId) (d : DataW H) : Prop := ∀ n ∈ d.weights P t, n ≤ reachBytes

section
variable {H : Type} {enc : TypeId × Value → H} {P : Program} {w : World} {base : Nat} {spare : Nat → Bool} {held : Bool}
theorem weightsAll_mem {e : TypeId} : ∀ {l : List (DataW H)} {d : DataW H}, d ∈ l → ∀ n ∈ d.weights P e, n ∈ DataW.weightsAll P e l
  | d0 :: l, d, h, n, hn => by
    simp only [DataW.weightsAll, List.mem_append]
    rcases List.mem_cons.1 h with rfl | h
    · exact Or.inl hn
    · exact Or.inr (weightsAll_mem h n hn)

theorem open_SlR_light {α : Type} {t e : TypeId} {fuel size bytes : Nat} {v : Value} {d : DataW H × List MemPlace} (R : List Value → α → Prop) (ht : P.underlying t = some (.slice e)) (hC : P.cellsOf e = size) (hs : 0 < size) (hby : P.bytesOf e = bytes)
    (h : DataW.trod enc P w base spare held fuel t [v] = some d) (hl : Light P t d.1)
    (hR : ∀ (n : Nat) (x : List Value) (y : DataW H × List MemPlace), x.length = size → DataW.trod enc P w base spare held n e x = some y → Light P e y.1 → ∃ z : α, R x z) :
    ∃ l : List α, SlR w w.heap.size size R v l ∧ Fit l.length bytes := by
  rcases open_slice ht h with ⟨h0, _⟩ | ⟨a, len, cap, m, n, D, Pl, hcs, hb, hle, hm, hmm, hx, hi⟩
  · simp at h0
    subst h0
    exact ⟨[], SlR.nil_ _ (by unfold maxLen; omega) _, by unfold Fit; simp⟩
  · simp at hcs
    subst hcs
    rw [hC] at hi
    have hlm : len ≤ m := by rw [hmm]; split <;> omega
    subst hx
    have hel : ∀ i, i < len → Light P e (D i) := by
      intro i hil n hn
      refine hl n ?_
      simp only [DataW.weights, ht, List.mem_cons, List.mem_append]
      exact Or.inr (Or.inl (weightsAll_mem (List.mem_map.2 ⟨i, List.mem_range.2 hil, rfl⟩) n hn))
    have key : ∀ i, i < len → ∃ z : α, ∃ x : List Value, x.length = size ∧ R x z ∧ ∀ (j : Nat) (u : Value), x[j]? = some u → w.cell? (a.add (i * size + j)) = some u := by
      intro i hil
      obtain ⟨cs', h1, h2⟩ := hi i (by omega)
      obtain ⟨_, hlen, hat⟩ := World.cells?_some h1
      obtain ⟨z, hz⟩ := hR n cs' _ hlen h2 (hel i hil)
      refine ⟨z, cs', hlen, hz, fun j u hu => ?_⟩
      have hj : j < size := by rw [← hlen]; exact (List.getElem?_eq_some_iff.1 hu).1
      have := hat j hj
      rw [hu] at this
      rw [← Go.Deep.add_add]
      exact this
    obtain ⟨l, hlen, hp⟩ := list_of_forall len key
    refine ⟨l, ⟨some a, cap, by rw [hlen], by omega, hm, fun hl0 => ?_⟩, ?_⟩
    · obtain ⟨b, off, spot⟩ := a
      obtain ⟨x, hx1, _, hx3⟩ := hp 0 l[0] (List.getElem?_eq_getElem hl0)
      have hc0 := hx3 0 x[0] (List.getElem?_eq_getElem (by omega))
      have hspot : spot = none := by simpa [Addr.add] using World.cell?_spot hc0
      subst hspot
      refine ⟨b, off, rfl, by simpa [Addr.add] using cell_lt hc0, fun i y hy => ?_⟩
      obtain ⟨x, hx1, hx2, hx3⟩ := hp i y hy
      refine ⟨x, hx1, hx2, fun j u hu => ?_⟩
      have := hx3 j u hu
      have e : (Addr.add ⟨b, off, none⟩ (i * size + j)) = ⟨b, off + i * size + j, none⟩ := by
        unfold Addr.add
        split
        · rename_i h0
          rw [Nat.add_assoc, h0, Nat.add_zero]
        · rw [Nat.add_assoc]
      rwa [e] at this
    · have hw : (len + (m - len)) * bytes ≤ reachBytes := by
        refine hl _ ?_
        simp only [DataW.weights, ht, List.mem_cons, hby, List.length_map, List.length_range]
        exact Or.inl trivial
      unfold Fit
      rw [hlen]
      have hr : reachBytes < 2 ^ 47 := by decide
      have : len * bytes ≤ (len + (m - len)) * bytes := Nat.mul_le_mul_right _ (by omega)
      omega

theorem open_fields_light {e : TypeId} {fs : Array Field} {fuel : Nat} {x : List Value} {d : DataW H × List MemPlace} (he : P.underlying e = some (.struct fs)) (hone : oneCellFields P fs = true) (hC : P.cellsOf e = fs.size)
    (h : DataW.trod enc P w base spare held fuel e x = some d) (hl : Light P e d.1) :
    x.length = fs.size ∧ ∃ n, ∀ (j : Nat) (f : Field), fs[j]? = some f → ∃ (u : Value) (y : DataW H × List MemPlace), x[j]? = some u ∧ DataW.trod enc P w base spare held n f.type [u] = some y ∧ Light P f.type y.1 := by
  obtain ⟨ys, n, hn, hy, hlen, hyl, hf⟩ := DataW.trod_struct he h
  rw [hC] at hlen
  refine ⟨hlen, n, fun j f hj => ?_⟩
  obtain ⟨ho, hk⟩ := hone_of hone j f hj
  have hjl : j < fs.size := (Array.getElem?_eq_some_iff.1 hj).1
  have h1 := hf j f hj
  rw [ho, hk] at h1
  have hone' : (x.drop j).take 1 = [x[j]'(by omega)] := by
    rw [List.drop_eq_getElem_cons (by omega)]
    rfl
  rw [hone', List.getElem?_eq_getElem (show j < ys.length by omega)] at h1
  refine ⟨_, _, List.getElem?_eq_getElem (by omega), h1, fun n hn => hl n ?_⟩
  subst hy
  simp only [DataW.weights, he]
  exact DataW.weights_mem_each (j := j) (by simp [hj]) (by simp [List.getElem?_eq_getElem (show j < ys.length by omega)]) n hn
end

section
variable {H : Type} {enc : TypeId × Value → H} {w : World} {n : Nat} {x : List Value} {d : DataW H × List MemPlace}
theorem open_text (h : DataW.trod enc Try.prog w 0 (fun _ => true) true n 9 x = some d) : ∃ z, IsText x z := by
  obtain ⟨s, rfl, _, b⟩ := DataW.trod_string Try.underlying9 h
  exact ⟨s, rfl, b⟩
theorem open_int (h : DataW.trod enc Try.prog w 0 (fun _ => true) true n 3 x = some d) : ∃ z, IsInt x z := by
  obtain ⟨s, rfl, _, b⟩ := DataW.trod_int Try.underlying3 h
  exact ⟨s, rfl, b⟩

theorem open_PropDef (h : DataW.trod enc Try.prog w 0 (fun _ => true) true n 45 x = some d) (hl : Light Try.prog 45 d.1) : ∃ z, PropDef.Is x z := by
  obtain ⟨hlen, m, hf⟩ := open_fields_light Try.underlying45 (by kernel_rfl) (by kernel_rfl) h hl
  obtain ⟨u0, u1, rfl⟩ := len2 hlen
  obtain ⟨u, y, hu, hy, hL⟩ := hf 0 _ rfl
  obtain rfl : u0 = u := by simpa using hu
  obtain ⟨a0, hk, _, b0⟩ := DataW.trod_string Try.underlying9 hy
  simp at hk
  subst hk
  clear hu hy hL
  obtain ⟨u, y, hu, hy, hL⟩ := hf 1 _ rfl
  obtain rfl : u1 = u := by simpa using hu
  obtain ⟨a1, hk, _, b1⟩ := DataW.trod_int Try.underlying3 hy
  simp at hk
  subst hk
  clear hu hy hL
  exact ⟨⟨a0, a1⟩, rfl, b1, b0⟩
theorem open_KidDef (h : DataW.trod enc Try.prog w 0 (fun _ => true) true n 47 x = some d) (hl : Light Try.prog 47 d.1) : ∃ z, KidDef.Is x z := by
  obtain ⟨hlen, m, hf⟩ := open_fields_light Try.underlying47 (by kernel_rfl) (by kernel_rfl) h hl
  obtain ⟨u0, u1, u2, u3, rfl⟩ := len4 hlen
  obtain ⟨u, y, hu, hy, hL⟩ := hf 0 _ rfl
  obtain rfl : u0 = u := by simpa using hu
  obtain ⟨a0, hk, _, b0⟩ := DataW.trod_string Try.underlying9 hy
  simp at hk
  subst hk
  clear hu hy hL
  obtain ⟨u, y, hu, hy, hL⟩ := hf 1 _ rfl
  obtain rfl : u1 = u := by simpa using hu
  obtain ⟨a1, hk, _, b1⟩ := DataW.trod_string Try.underlying9 hy
  simp at hk
  subst hk
  clear hu hy hL
  obtain ⟨u, y, hu, hy, hL⟩ := hf 2 _ rfl
  obtain rfl : u2 = u := by simpa using hu
  obtain ⟨a2, hk, _, b2⟩ := DataW.trod_int Try.underlying3 hy
  simp at hk
  subst hk
  clear hu hy hL
  obtain ⟨u, y, hu, hy, hL⟩ := hf 3 _ rfl
  obtain rfl : u3 = u := by simpa using hu
  obtain ⟨a3, hk, _, b3⟩ := DataW.trod_int Try.underlying3 hy
  simp at hk
  subst hk
  clear hu hy hL
  exact ⟨⟨a0, a1, a2, a3⟩, rfl, b2, b3, b0, b1⟩
theorem open_RefDef (h : DataW.trod enc Try.prog w 0 (fun _ => true) true n 49 x = some d) (hl : Light Try.prog 49 d.1) : ∃ z, RefDef.Is x z := by
  obtain ⟨hlen, m, hf⟩ := open_fields_light Try.underlying49 (by kernel_rfl) (by kernel_rfl) h hl
  obtain ⟨u0, u1, u2, rfl⟩ := len3 hlen
  obtain ⟨u, y, hu, hy, hL⟩ := hf 0 _ rfl
  obtain rfl : u0 = u := by simpa using hu
  obtain ⟨a0, hk, _, b0⟩ := DataW.trod_string Try.underlying9 hy
  simp at hk
  subst hk
  clear hu hy hL
  obtain ⟨u, y, hu, hy, hL⟩ := hf 1 _ rfl
  obtain rfl : u1 = u := by simpa using hu
  obtain ⟨a1, hk, _, b1⟩ := DataW.trod_string Try.underlying9 hy
  simp at hk
  subst hk
  clear hu hy hL
  obtain ⟨u, y, hu, hy, hL⟩ := hf 2 _ rfl
  obtain rfl : u2 = u := by simpa using hu
  obtain ⟨a2, hk, _⟩ := DataW.trod_bool Try.underlying4 hy
  simp at hk
  subst hk
  clear hu hy hL
  exact ⟨⟨a0, a1, a2⟩, rfl, b0, b1⟩
theorem open_Rule (h : DataW.trod enc Try.prog w 0 (fun _ => true) true n 63 x = some d) (hl : Light Try.prog 63 d.1) : ∃ z, Rule.Is x z := by
  obtain ⟨hlen, m, hf⟩ := open_fields_light Try.underlying63 (by kernel_rfl) (by kernel_rfl) h hl
  obtain ⟨u0, u1, u2, u3, rfl⟩ := len4 hlen
  obtain ⟨u, y, hu, hy, hL⟩ := hf 0 _ rfl
  obtain rfl : u0 = u := by simpa using hu
  obtain ⟨a0, hk, _, b0⟩ := DataW.trod_string Try.underlying9 hy
  simp at hk
  subst hk
  clear hu hy hL
  obtain ⟨u, y, hu, hy, hL⟩ := hf 1 _ rfl
  obtain rfl : u1 = u := by simpa using hu
  obtain ⟨a1, hk, _, b1⟩ := DataW.trod_string Try.underlying9 hy
  simp at hk
  subst hk
  clear hu hy hL
  obtain ⟨u, y, hu, hy, hL⟩ := hf 2 _ rfl
  obtain rfl : u2 = u := by simpa using hu
  obtain ⟨a2, hk, _⟩ := DataW.trod_bool Try.underlying4 hy
  simp at hk
  subst hk
  clear hu hy hL
  obtain ⟨u, y, hu, hy, hL⟩ := hf 3 _ rfl
  obtain rfl : u3 = u := by simpa using hu
  obtain ⟨a3, hk, _, b3⟩ := DataW.trod_string Try.underlying9 hy
  simp at hk
  subst hk
  clear hu hy hL
  exact ⟨⟨a0, a1, a2, a3⟩, rfl, b0, b1, b3⟩
theorem open_Cell (h : DataW.trod enc Try.prog w 0 (fun _ => true) true n 74 x = some d) (hl : Light Try.prog 74 d.1) : ∃ z, Cell.Is x z := by
  obtain ⟨hlen, m, hf⟩ := open_fields_light Try.underlying74 (by kernel_rfl) (by kernel_rfl) h hl
  obtain ⟨u0, u1, u2, rfl⟩ := len3 hlen
  obtain ⟨u, y, hu, hy, hL⟩ := hf 0 _ rfl
  obtain rfl : u0 = u := by simpa using hu
  obtain ⟨a0, hk, _, b0⟩ := DataW.trod_int Try.underlying3 hy
  simp at hk
  subst hk
  clear hu hy hL
  obtain ⟨u, y, hu, hy, hL⟩ := hf 1 _ rfl
  obtain rfl : u1 = u := by simpa using hu
  obtain ⟨a1, hk, _, b1⟩ := DataW.trod_string Try.underlying9 hy
  simp at hk
  subst hk
  clear hu hy hL
  obtain ⟨u, y, hu, hy, hL⟩ := hf 2 _ rfl
  obtain rfl : u2 = u := by simpa using hu
  obtain ⟨a2, hk, _, b2⟩ := DataW.trod_string Try.underlying9 hy
  simp at hk
  subst hk
  clear hu hy hL
  exact ⟨⟨a0, a1, a2⟩, rfl, b0, b1, b2⟩
theorem open_Piece (h : DataW.trod enc Try.prog w 0 (fun _ => true) true n 78 x = some d) (hl : Light Try.prog 78 d.1) : ∃ z, Cell.Is x z := by
  obtain ⟨hlen, m, hf⟩ := open_fields_light Try.underlying78 (by kernel_rfl) (by kernel_rfl) h hl
  obtain ⟨u0, u1, u2, rfl⟩ := len3 hlen
  obtain ⟨u, y, hu, hy, hL⟩ := hf 0 _ rfl
  obtain rfl : u0 = u := by simpa using hu
  obtain ⟨a0, hk, _, b0⟩ := DataW.trod_int Try.underlying3 hy
  simp at hk
  subst hk
  clear hu hy hL
  obtain ⟨u, y, hu, hy, hL⟩ := hf 1 _ rfl
  obtain rfl : u1 = u := by simpa using hu
  obtain ⟨a1, hk, _, b1⟩ := DataW.trod_string Try.underlying9 hy
  simp at hk
  subst hk
  clear hu hy hL
  obtain ⟨u, y, hu, hy, hL⟩ := hf 2 _ rfl
  obtain rfl : u2 = u := by simpa using hu
  obtain ⟨a2, hk, _, b2⟩ := DataW.trod_string Try.underlying9 hy
  simp at hk
  subst hk
  clear hu hy hL
  exact ⟨⟨a0, a1, a2⟩, rfl, b0, b1, b2⟩
theorem open_Concept (h : DataW.trod enc Try.prog w 0 (fun _ => true) true n 38 x = some d) (hl : Light Try.prog 38 d.1) : ∃ z, Concept.Is w w.heap.size x z := by
  obtain ⟨hlen, m, hf⟩ := open_fields_light Try.underlying38 (by kernel_rfl) (by kernel_rfl) h hl
  obtain ⟨u0, u1, u2, u3, u4, u5, rfl⟩ := len6 hlen
  obtain ⟨u, y, hu, hy, hL⟩ := hf 0 _ rfl
  obtain rfl : u0 = u := by simpa using hu
  obtain ⟨a0, hk, _, b0⟩ := DataW.trod_string Try.underlying9 hy
  simp at hk
  subst hk
  clear hu hy hL
  obtain ⟨u, y, hu, hy, hL⟩ := hf 1 _ rfl
  obtain rfl : u1 = u := by simpa using hu
  obtain ⟨a1, hk, _, b1⟩ := DataW.trod_string Try.underlying9 hy
  simp at hk
  subst hk
  clear hu hy hL
  obtain ⟨u, y, hu, hy, hL⟩ := hf 2 _ rfl
  obtain rfl : u2 = u := by simpa using hu
  obtain ⟨a2, hk, _⟩ := DataW.trod_bool Try.underlying4 hy
  simp at hk
  subst hk
  clear hu hy hL
  obtain ⟨u, y, hu, hy, hL⟩ := hf 3 _ rfl
  obtain rfl : u3 = u := by simpa using hu
  obtain ⟨a3, s3, b3⟩ := open_SlR_light PropDef.Is Try.underlying34 (size := 2) (bytes := 24) (by kernel_rfl) (by decide) (by kernel_rfl) hy hL (fun n x y _ h hl => open_PropDef h hl)
  clear hu hy hL
  obtain ⟨u, y, hu, hy, hL⟩ := hf 4 _ rfl
  obtain rfl : u4 = u := by simpa using hu
  obtain ⟨a4, s4, b4⟩ := open_SlR_light KidDef.Is Try.underlying35 (size := 4) (bytes := 48) (by kernel_rfl) (by decide) (by kernel_rfl) hy hL (fun n x y _ h hl => open_KidDef h hl)
  clear hu hy hL
  obtain ⟨u, y, hu, hy, hL⟩ := hf 5 _ rfl
  obtain rfl : u5 = u := by simpa using hu
  obtain ⟨a5, s5, b5⟩ := open_SlR_light RefDef.Is Try.underlying36 (size := 3) (bytes := 40) (by kernel_rfl) (by decide) (by kernel_rfl) hy hL (fun n x y _ h hl => open_RefDef h hl)
  clear hu hy hL
  exact ⟨⟨a0, a1, a2, a3, a4, a5⟩, _, _, _, rfl, s3, s4, s5, b3, b4, b5, b0, b1⟩
theorem open_Side (h : DataW.trod enc Try.prog w 0 (fun _ => true) true n 68 x = some d) (hl : Light Try.prog 68 d.1) : ∃ z, Side.Is w w.heap.size x z := by
  obtain ⟨hlen, m, hf⟩ := open_fields_light Try.underlying68 (by kernel_rfl) (by kernel_rfl) h hl
  obtain ⟨u0, u1, u2, u3, rfl⟩ := len4 hlen
  obtain ⟨u, y, hu, hy, hL⟩ := hf 0 _ rfl
  obtain rfl : u0 = u := by simpa using hu
  obtain ⟨a0, hk, _, b0⟩ := DataW.trod_int Try.underlying3 hy
  simp at hk
  subst hk
  clear hu hy hL
  obtain ⟨u, y, hu, hy, hL⟩ := hf 1 _ rfl
  obtain rfl : u1 = u := by simpa using hu
  obtain ⟨a1, hk, _, b1⟩ := DataW.trod_string Try.underlying9 hy
  simp at hk
  subst hk
  clear hu hy hL
  obtain ⟨u, y, hu, hy, hL⟩ := hf 2 _ rfl
  obtain rfl : u2 = u := by simpa using hu
  obtain ⟨a2, hk, _, b2⟩ := DataW.trod_int Try.underlying3 hy
  simp at hk
  subst hk
  clear hu hy hL
  obtain ⟨u, y, hu, hy, hL⟩ := hf 3 _ rfl
  obtain rfl : u3 = u := by simpa using hu
  obtain ⟨a3, s3, b3⟩ := open_SlR_light IsInt Try.underlying66 (size := 1) (bytes := 8) (by kernel_rfl) (by decide) (by kernel_rfl) hy hL (fun n x y _ h hl => open_int h)
  clear hu hy hL
  exact ⟨⟨a0, a1, a2, a3⟩, _, rfl, s3, b3, b0, b1, b2⟩
theorem open_Equation (h : DataW.trod enc Try.prog w 0 (fun _ => true) true n 53 x = some d) (hl : Light Try.prog 53 d.1) : ∃ z, Equation.Is w w.heap.size x z := by
  obtain ⟨hlen, m, hf⟩ := open_fields_light Try.underlying53 (by kernel_rfl) (by kernel_rfl) h hl
  obtain ⟨u0, u1, u2, rfl⟩ := len3 hlen
  obtain ⟨u, y, hu, hy, hL⟩ := hf 0 _ rfl
  obtain rfl : u0 = u := by simpa using hu
  obtain ⟨a0, hk, _, b0⟩ := DataW.trod_string Try.underlying9 hy
  simp at hk
  subst hk
  clear hu hy hL
  obtain ⟨u, y, hu, hy, hL⟩ := hf 1 _ rfl
  obtain rfl : u1 = u := by simpa using hu
  obtain ⟨a1, s1, b1⟩ := open_SlR_light (Side.Is w w.heap.size) Try.underlying33 (size := 4) (bytes := 56) (by kernel_rfl) (by decide) (by kernel_rfl) hy hL (fun n x y _ h hl => open_Side h hl)
  clear hu hy hL
  obtain ⟨u, y, hu, hy, hL⟩ := hf 2 _ rfl
  obtain rfl : u2 = u := by simpa using hu
  obtain ⟨a2, s2, b2⟩ := open_SlR_light (Side.Is w w.heap.size) Try.underlying33 (size := 4) (bytes := 56) (by kernel_rfl) (by decide) (by kernel_rfl) hy hL (fun n x y _ h hl => open_Side h hl)
  clear hu hy hL
  exact ⟨⟨a0, a1, a2⟩, _, _, rfl, s1, s2, b1, b2, b0⟩
theorem open_Editor (h : DataW.trod enc Try.prog w 0 (fun _ => true) true n 56 x = some d) (hl : Light Try.prog 56 d.1) : ∃ z, Editor.Is w w.heap.size x z := by
  obtain ⟨hlen, m, hf⟩ := open_fields_light Try.underlying56 (by kernel_rfl) (by kernel_rfl) h hl
  obtain ⟨u0, u1, rfl⟩ := len2 hlen
  obtain ⟨u, y, hu, hy, hL⟩ := hf 0 _ rfl
  obtain rfl : u0 = u := by simpa using hu
  obtain ⟨a0, hk, _, b0⟩ := DataW.trod_string Try.underlying9 hy
  simp at hk
  subst hk
  clear hu hy hL
  obtain ⟨u, y, hu, hy, hL⟩ := hf 1 _ rfl
  obtain rfl : u1 = u := by simpa using hu
  obtain ⟨a1, s1, b1⟩ := open_SlR_light Cell.Is Try.underlying54 (size := 3) (bytes := 40) (by kernel_rfl) (by decide) (by kernel_rfl) hy hL (fun n x y _ h hl => open_Cell h hl)
  clear hu hy hL
  exact ⟨⟨a0, a1⟩, _, rfl, s1, b1, b0⟩
theorem open_Template (h : DataW.trod enc Try.prog w 0 (fun _ => true) true n 59 x = some d) (hl : Light Try.prog 59 d.1) : ∃ z, Template.Is w w.heap.size x z := by
  obtain ⟨hlen, m, hf⟩ := open_fields_light Try.underlying59 (by kernel_rfl) (by kernel_rfl) h hl
  obtain ⟨u0, u1, rfl⟩ := len2 hlen
  obtain ⟨u, y, hu, hy, hL⟩ := hf 0 _ rfl
  obtain rfl : u0 = u := by simpa using hu
  obtain ⟨a0, hk, _, b0⟩ := DataW.trod_string Try.underlying9 hy
  simp at hk
  subst hk
  clear hu hy hL
  obtain ⟨u, y, hu, hy, hL⟩ := hf 1 _ rfl
  obtain rfl : u1 = u := by simpa using hu
  obtain ⟨a1, s1, b1⟩ := open_SlR_light Cell.Is Try.underlying57 (size := 3) (bytes := 40) (by kernel_rfl) (by decide) (by kernel_rfl) hy hL (fun n x y _ h hl => open_Piece h hl)
  clear hu hy hL
  exact ⟨⟨a0, a1⟩, _, rfl, s1, b1, b0⟩
theorem open_Language (h : DataW.trod enc Try.prog w 0 (fun _ => true) true n 29 x = some d) (hl : Light Try.prog 29 d.1) : ∃ z, Language.Is w w.heap.size x z := by
  obtain ⟨hlen, m, hf⟩ := open_fields_light Try.underlying29 (by kernel_rfl) (by kernel_rfl) h hl
  obtain ⟨u0, u1, u2, u3, u4, u5, u6, u7, rfl⟩ := len8 hlen
  obtain ⟨u, y, hu, hy, hL⟩ := hf 0 _ rfl
  obtain rfl : u0 = u := by simpa using hu
  obtain ⟨a0, hk, _, b0⟩ := DataW.trod_string Try.underlying9 hy
  simp at hk
  subst hk
  clear hu hy hL
  obtain ⟨u, y, hu, hy, hL⟩ := hf 1 _ rfl
  obtain rfl : u1 = u := by simpa using hu
  obtain ⟨a1, hk, _, b1⟩ := DataW.trod_int Try.underlying3 hy
  simp at hk
  subst hk
  clear hu hy hL
  obtain ⟨u, y, hu, hy, hL⟩ := hf 2 _ rfl
  obtain rfl : u2 = u := by simpa using hu
  obtain ⟨a2, s2, b2⟩ := open_SlR_light IsText Try.underlying22 (size := 1) (bytes := 16) (by kernel_rfl) (by decide) (by kernel_rfl) hy hL (fun n x y _ h hl => open_text h)
  clear hu hy hL
  obtain ⟨u, y, hu, hy, hL⟩ := hf 3 _ rfl
  obtain rfl : u3 = u := by simpa using hu
  obtain ⟨a3, s3, b3⟩ := open_SlR_light (Concept.Is w w.heap.size) Try.underlying23 (size := 6) (bytes := 112) (by kernel_rfl) (by decide) (by kernel_rfl) hy hL (fun n x y _ h hl => open_Concept h hl)
  clear hu hy hL
  obtain ⟨u, y, hu, hy, hL⟩ := hf 4 _ rfl
  obtain rfl : u4 = u := by simpa using hu
  obtain ⟨a4, s4, b4⟩ := open_SlR_light Rule.Is Try.underlying24 (size := 4) (bytes := 56) (by kernel_rfl) (by decide) (by kernel_rfl) hy hL (fun n x y _ h hl => open_Rule h hl)
  clear hu hy hL
  obtain ⟨u, y, hu, hy, hL⟩ := hf 5 _ rfl
  obtain rfl : u5 = u := by simpa using hu
  obtain ⟨a5, s5, b5⟩ := open_SlR_light (Equation.Is w w.heap.size) Try.underlying25 (size := 3) (bytes := 64) (by kernel_rfl) (by decide) (by kernel_rfl) hy hL (fun n x y _ h hl => open_Equation h hl)
  clear hu hy hL
  obtain ⟨u, y, hu, hy, hL⟩ := hf 6 _ rfl
  obtain rfl : u6 = u := by simpa using hu
  obtain ⟨a6, s6, b6⟩ := open_SlR_light (Editor.Is w w.heap.size) Try.underlying26 (size := 2) (bytes := 40) (by kernel_rfl) (by decide) (by kernel_rfl) hy hL (fun n x y _ h hl => open_Editor h hl)
  clear hu hy hL
  obtain ⟨u, y, hu, hy, hL⟩ := hf 7 _ rfl
  obtain rfl : u7 = u := by simpa using hu
  obtain ⟨a7, s7, b7⟩ := open_SlR_light (Template.Is w w.heap.size) Try.underlying27 (size := 2) (bytes := 40) (by kernel_rfl) (by decide) (by kernel_rfl) hy hL (fun n x y _ h hl => open_Template h hl)
  clear hu hy hL
  exact ⟨⟨a0, a1, a2, a3, a4, a5, a6, a7⟩, _, _, _, _, _, _, rfl, s2, s3, s4, s5, s6, s7, ⟨b2, b3, b4, b5, b6, b7⟩, b0, b1⟩
end
end Go.Proofs.Ytdhljfblkidohaa
