/- The parser's 'one': what a word stands for. A node under way: its box, its row of parts, the parts; what each step leaves of it. -/
import Derived.Test.YtlenenfgedgmhaaDoorMMark
import Derived.Deep.AppendLies
namespace Go.Proofs.YtlenenfgedgmhaaDoor
set_option linter.unusedSimpArgs false
set_option linter.unusedVariables false
open Go.RowKit

theorem p_one_and (W : World) : Calls Tryd.prog 86 #[.string ⟨#[97, 110, 100]⟩] W fun e w' => e = .returned (.tuple #[.int .i64 0, .int .i64 0]) ∧ w' = W := by
  go_enter Tryd.func86, Tryd.ntmps86
  go_wp2_with fail
  go_ret2
  exact ⟨rfl, rfl⟩
theorem p_one_any (W : World) : Calls Tryd.prog 86 #[.string ⟨#[97, 110, 121]⟩] W fun e w' => e = .returned (.tuple #[.int .i64 31, .int .i64 2]) ∧ w' = W := by
  go_enter Tryd.func86, Tryd.ntmps86
  go_wp2_with fail
  go_ret2
  exact ⟨rfl, rfl⟩
theorem p_one_concept (W : World) : Calls Tryd.prog 86 #[.string ⟨#[99, 111, 110, 99, 101, 112, 116]⟩] W fun e w' => e = .returned (.tuple #[.int .i64 17, .int .i64 1]) ∧ w' = W := by
  go_enter Tryd.func86, Tryd.ntmps86
  go_wp2_with fail
  go_ret2
  exact ⟨rfl, rfl⟩
theorem p_one_else (W : World) : Calls Tryd.prog 86 #[.string ⟨#[101, 108, 115, 101]⟩] W fun e w' => e = .returned (.tuple #[.int .i64 0, .int .i64 0]) ∧ w' = W := by
  go_enter Tryd.func86, Tryd.ntmps86
  go_wp2_with fail
  go_ret2
  exact ⟨rfl, rfl⟩
theorem p_one_end (W : World) : Calls Tryd.prog 86 #[.string ⟨#[101, 110, 100]⟩] W fun e w' => e = .returned (.tuple #[.int .i64 0, .int .i64 0]) ∧ w' = W := by
  go_enter Tryd.func86, Tryd.ntmps86
  go_wp2_with fail
  go_ret2
  exact ⟨rfl, rfl⟩
theorem p_one_every (W : World) : Calls Tryd.prog 86 #[.string ⟨#[101, 118, 101, 114, 121]⟩] W fun e w' => e = .returned (.tuple #[.int .i64 32, .int .i64 2]) ∧ w' = W := by
  go_enter Tryd.func86, Tryd.ntmps86
  go_wp2_with fail
  go_ret2
  exact ⟨rfl, rfl⟩
theorem p_one_false (W : World) : Calls Tryd.prog 86 #[.string ⟨#[102, 97, 108, 115, 101]⟩] W fun e w' => e = .returned (.tuple #[.int .i64 4, .int .i64 0]) ∧ w' = W := by
  go_enter Tryd.func86, Tryd.ntmps86
  go_wp2_with fail
  go_ret2
  exact ⟨rfl, rfl⟩
theorem p_one_first (W : World) : Calls Tryd.prog 86 #[.string ⟨#[102, 105, 114, 115, 116]⟩] W fun e w' => e = .returned (.tuple #[.int .i64 15, .int .i64 1]) ∧ w' = W := by
  go_enter Tryd.func86, Tryd.ntmps86
  go_wp2_with fail
  go_ret2
  exact ⟨rfl, rfl⟩
theorem p_one_id (W : World) : Calls Tryd.prog 86 #[.string ⟨#[105, 100]⟩] W fun e w' => e = .returned (.tuple #[.int .i64 18, .int .i64 1]) ∧ w' = W := by
  go_enter Tryd.func86, Tryd.ntmps86
  go_wp2_with fail
  go_ret2
  exact ⟨rfl, rfl⟩
theorem p_one_if (W : World) : Calls Tryd.prog 86 #[.string ⟨#[105, 102]⟩] W fun e w' => e = .returned (.tuple #[.int .i64 30, .int .i64 3]) ∧ w' = W := by
  go_enter Tryd.func86, Tryd.ntmps86
  go_wp2_with fail
  go_ret2
  exact ⟨rfl, rfl⟩
theorem p_one_in (W : World) : Calls Tryd.prog 86 #[.string ⟨#[105, 110]⟩] W fun e w' => e = .returned (.tuple #[.int .i64 0, .int .i64 0]) ∧ w' = W := by
  go_enter Tryd.func86, Tryd.ntmps86
  go_wp2_with fail
  go_ret2
  exact ⟨rfl, rfl⟩
theorem p_one_int (W : World) : Calls Tryd.prog 86 #[.string ⟨#[105, 110, 116]⟩] W fun e w' => e = .returned (.tuple #[.int .i64 19, .int .i64 1]) ∧ w' = W := by
  go_enter Tryd.func86, Tryd.ntmps86
  go_wp2_with fail
  go_ret2
  exact ⟨rfl, rfl⟩
theorem p_one_none (W : World) : Calls Tryd.prog 86 #[.string ⟨#[110, 111, 110, 101]⟩] W fun e w' => e = .returned (.tuple #[.int .i64 6, .int .i64 0]) ∧ w' = W := by
  go_enter Tryd.func86, Tryd.ntmps86
  go_wp2_with fail
  go_ret2
  exact ⟨rfl, rfl⟩
theorem p_one_not (W : World) : Calls Tryd.prog 86 #[.string ⟨#[110, 111, 116]⟩] W fun e w' => e = .returned (.tuple #[.int .i64 0, .int .i64 0]) ∧ w' = W := by
  go_enter Tryd.func86, Tryd.ntmps86
  go_wp2_with fail
  go_ret2
  exact ⟨rfl, rfl⟩
theorem p_one_only (W : World) : Calls Tryd.prog 86 #[.string ⟨#[111, 110, 108, 121]⟩] W fun e w' => e = .returned (.tuple #[.int .i64 33, .int .i64 2]) ∧ w' = W := by
  go_enter Tryd.func86, Tryd.ntmps86
  go_wp2_with fail
  go_ret2
  exact ⟨rfl, rfl⟩
theorem p_one_or (W : World) : Calls Tryd.prog 86 #[.string ⟨#[111, 114]⟩] W fun e w' => e = .returned (.tuple #[.int .i64 0, .int .i64 0]) ∧ w' = W := by
  go_enter Tryd.func86, Tryd.ntmps86
  go_wp2_with fail
  go_ret2
  exact ⟨rfl, rfl⟩
theorem p_one_self (W : World) : Calls Tryd.prog 86 #[.string ⟨#[115, 101, 108, 102]⟩] W fun e w' => e = .returned (.tuple #[.int .i64 5, .int .i64 0]) ∧ w' = W := by
  go_enter Tryd.func86, Tryd.ntmps86
  go_wp2_with fail
  go_ret2
  exact ⟨rfl, rfl⟩
theorem p_one_size (W : World) : Calls Tryd.prog 86 #[.string ⟨#[115, 105, 122, 101]⟩] W fun e w' => e = .returned (.tuple #[.int .i64 14, .int .i64 1]) ∧ w' = W := by
  go_enter Tryd.func86, Tryd.ntmps86
  go_wp2_with fail
  go_ret2
  exact ⟨rfl, rfl⟩
theorem p_one_sum (W : World) : Calls Tryd.prog 86 #[.string ⟨#[115, 117, 109]⟩] W fun e w' => e = .returned (.tuple #[.int .i64 34, .int .i64 2]) ∧ w' = W := by
  go_enter Tryd.func86, Tryd.ntmps86
  go_wp2_with fail
  go_ret2
  exact ⟨rfl, rfl⟩
theorem p_one_text (W : World) : Calls Tryd.prog 86 #[.string ⟨#[116, 101, 120, 116]⟩] W fun e w' => e = .returned (.tuple #[.int .i64 16, .int .i64 1]) ∧ w' = W := by
  go_enter Tryd.func86, Tryd.ntmps86
  go_wp2_with fail
  go_ret2
  exact ⟨rfl, rfl⟩
theorem p_one_then (W : World) : Calls Tryd.prog 86 #[.string ⟨#[116, 104, 101, 110]⟩] W fun e w' => e = .returned (.tuple #[.int .i64 0, .int .i64 0]) ∧ w' = W := by
  go_enter Tryd.func86, Tryd.ntmps86
  go_wp2_with fail
  go_ret2
  exact ⟨rfl, rfl⟩
theorem p_one_true (W : World) : Calls Tryd.prog 86 #[.string ⟨#[116, 114, 117, 101]⟩] W fun e w' => e = .returned (.tuple #[.int .i64 3, .int .i64 0]) ∧ w' = W := by
  go_enter Tryd.func86, Tryd.ntmps86
  go_wp2_with fail
  go_ret2
  exact ⟨rfl, rfl⟩
theorem p_one {s : List Nat} (hs : s ∈ wordsL) (W : World) : Calls Tryd.prog 86 #[.string (txt s)] W fun e w' => e = .returned (.tuple #[.int .i64 ((oneN s).1 : Int), .int .i64 ((oneN s).2 : Int)]) ∧ w' = W := by
  simp only [wordsL, List.mem_cons, List.not_mem_nil, or_false] at hs
  rcases hs with rfl | rfl | rfl | rfl | rfl | rfl | rfl | rfl | rfl | rfl | rfl | rfl | rfl | rfl | rfl | rfl | rfl | rfl | rfl | rfl | rfl | rfl
  · exact p_one_and W
  · exact p_one_any W
  · exact p_one_concept W
  · exact p_one_else W
  · exact p_one_end W
  · exact p_one_every W
  · exact p_one_false W
  · exact p_one_first W
  · exact p_one_id W
  · exact p_one_if W
  · exact p_one_in W
  · exact p_one_int W
  · exact p_one_none W
  · exact p_one_not W
  · exact p_one_only W
  · exact p_one_or W
  · exact p_one_self W
  · exact p_one_size W
  · exact p_one_sum W
  · exact p_one_text W
  · exact p_one_then W
  · exact p_one_true W
end Go.Proofs.YtlenenfgedgmhaaDoor
namespace Go.Proofs.YtlenenfgedgmhaaDoor
set_option linter.unusedSimpArgs false
set_option linter.unusedVariables false
open Go.RowKit

theorem info_ptr : (Tryd.prog.info? 60).map (fun i => (i.zero, i.size, i.bytes)) = some (some (.pointer none), 1, 8) := by kernel_rfl
/-- the parser at token j, a node of a kind and text in block g, with parts so far -/
structure WS (q : Nat) (a : Option Addr) (c sz : Nat) (l : List Tok) (W : World) (g k : Nat) (s : List Nat) (ts : List Tr) (j : Nat) (X : World) (v : Value) : Prop where
  mv : Mv q W X
  st : PSt q a c sz l j X
  box : Blk X g 91 #[.int .i64 (k : Int), .string (txt s), .int .i64 0, .slice none 0 0, v]
  lo : W.heap.size ≤ g
  ql : q < W.heap.size
  row : ∃ gs, Own1 X (g + 1) 60 1 IsPtr v gs ∧ TreesIn X (fun b => g + 1 ≤ b ∧ v.ownBlock ≠ some b) ts gs
section
variable {q : Nat} {a : Option Addr} {c sz : Nat} {l : List Tok} {W : World} {g k : Nat} {s : List Nat} {ts : List Tr} {j : Nat} {X : World} {v : Value}
theorem WS.new {X0 : World} (hm : Mv q W X0) (hp : PSt q a c sz l j X0) (hq : q < W.heap.size) : WS q a c sz l W X0.heap.size k s [] j (X0.alloc (.cells #[.int .i64 (k : Int), .string (txt s), .int .i64 0, .slice none 0 0, .slice none 0 0] 91)) (.slice none 0 0) := by
  have hb := (Below.refl X0.heap.size X0).alloc (Nat.le_refl _) (.cells #[.int .i64 (k : Int), .string (txt s), .int .i64 0, .slice none 0 0, .slice none 0 0] 91)
  exact ⟨hm.trans (Mv.of_below hb (Nat.le_of_lt hp.box.lt)), hp.keep hb, Blk.new _ _ _, hm.low.size, hq, [], ⟨[], ⟨rfl, .inl ⟨rfl, rfl⟩⟩, FlatR.nil_⟩, rfl⟩
theorem WS.call (h : WS q a c sz l W g k s ts j X v) {X' : World} {j' : Nat} (hm : Mv q X X') (hp : PSt q a c sz l j' X') : WS q a c sz l W g k s ts j' X' v := by
  obtain ⟨gs, h1, h2⟩ := h.row
  have hg : q < g := Nat.lt_of_lt_of_le h.ql h.lo
  refine ⟨h.mv.trans hm, hp, hm.blk h.box hg, h.lo, h.ql, gs, h1.stay (fun b hb hl => hm.high b ?_ hl), h2.stay (fun b hb hl => hm.high b (by omega) hl)⟩
  have := (h1.block b hb).1
  omega
theorem WS.quiet (h : WS q a c sz l W g k s ts j X v) {X' : World} (hq : Quiet X X') : WS q a c sz l W g k s ts j X' v := h.call (Mv.quiet hq) (h.st.quiet hq)
theorem WS.tree (h : WS q a c sz l W g k s ts j X v) : TreeAt X W.heap.size (.node k s 0 ts) g := by
  obtain ⟨gs, h1, h2⟩ := h.row
  have hlo := h.lo
  simp only [TreeAt, TreeIn]
  exact ⟨h.lo, v, gs, h.box, h1.mono (Nat.zero_le _), fun b hb => by have := (h1.block b hb).1; omega, h2.imp (fun b hb _ => by omega)⟩
theorem WS.reads (h : WS q a c sz l W g k s ts j X v) : Reads q a c sz l W (.ok (.node k s 0 ts) j) (.returned (.pointer (some ⟨g, 0, none⟩))) X := Reads.mk_ h.tree h.mv h.st
theorem WS.name (h : WS q a c sz l W g k s ts j X v) {s' : List Nat} {u : Value} (hu : u = .string (txt s')) : WS q a c sz l W g k s' ts j (X.setCell ⟨g, 1, none⟩ u) v := by
  subst hu
  obtain ⟨gs, h1, h2⟩ := h.row
  have hg : q < g := Nat.lt_of_lt_of_le h.ql h.lo
  have hst : ∀ b, g + 1 ≤ b → (X.setCell ⟨g, 1, none⟩ (.string (txt s'))).heap[b]? = X.heap[b]? := fun b hb => Below.heap_setCell X ⟨g, 1, none⟩ _ b (by show b ≠ g; omega)
  refine ⟨h.mv.setNew (p := ⟨g, 1, none⟩) _ (Nat.le_of_lt hg) h.lo, h.st.setFar (p := ⟨g, 1, none⟩) _ hg, by have := h.box.set_ 1 (.string (txt s')); simpa using this, h.lo, h.ql, gs, h1.stay (fun b hb _ => hst b (h1.block b hb).1), h2.stay (fun b hb _ => hst b hb.1)⟩
theorem WS.cells (h : WS q a c sz l W g k s ts j X v) : X.cell? ⟨g, 0, none⟩ = some (.int .i64 (k : Int)) ∧ X.cell? ⟨g, 1, none⟩ = some (.string (txt s)) ∧ X.cell? ⟨g, 4, none⟩ = some v ∧ X.frozen? ⟨g, 1, none⟩ = false ∧ X.frozen? ⟨g, 4, none⟩ = false ∧ g < X.heap.size :=
  ⟨h.box.cell rfl, h.box.cell rfl, h.box.cell rfl, h.box.frozen 1, h.box.frozen 4, h.box.lt⟩
theorem own_ptr {base : Nat} {gs : List Nat} (h : Own1 X base 60 1 IsPtr v gs) : X.ownsRow base 60 1 v gs.length (gs.map fun x => Value.pointer (some ⟨x, 0, none⟩)) := by
  obtain ⟨xs, h1, h2⟩ := h
  have : xs = gs.map fun x => Value.pointer (some ⟨x, 0, none⟩) := by
    apply List.ext_getElem?
    intro i
    have hl := h2.1
    rw [Nat.mul_one] at hl
    rcases Nat.lt_or_ge i gs.length with hi | hi
    · have := h2.2 i gs[i] (List.getElem?_eq_getElem hi)
      unfold IsPtr at this
      rw [Nat.mul_one] at this
      have e : ((xs.drop i).take 1)[0]? = xs[i]? := by rw [List.getElem?_take_of_lt (by omega), List.getElem?_drop, Nat.add_zero]
      rw [← e, this, List.getElem?_map, List.getElem?_eq_getElem hi]
      rfl
    · rw [List.getElem?_eq_none (by omega), List.getElem?_eq_none (by simp; omega)]
  rw [← this]
  exact h1
theorem TreesIn.len {S : Nat → Prop} : ∀ {ts : List Tr} {gs : List Nat}, TreesIn X S ts gs → gs.length = ts.length
  | [], gs, h => by simp only [TreesIn] at h; subst h; rfl
  | t :: ts, gs, h => by simp only [TreesIn] at h; obtain ⟨g', gs', rfl, _, h3⟩ := h; simp [TreesIn.len h3]
theorem news1 (w : World) (p : Value) (T : TypeId) : ∀ j u, [p][j]? = some u → (w.alloc (.cells #[p] T)).cell? ((⟨w.heap.size, 0, none⟩ : Addr).add j) = some u := by
  intro j u hu
  rcases j with _ | j
  · have hp : p = u := by simpa using hu
    subst hp
    exact (Blk.new w T #[p]).cell rfl
  · simp at hu
/-- the row behind a call, at the alloc -/
theorem WS.own4 (h : WS q a c sz l W g k s ts j X v) {gs : List Nat} (h1 : Own1 X (g + 1) 60 1 IsPtr v gs) {Xd w3 : World} (hd : Quiet X Xd) (hm : Mv q Xd w3) (o : Obj) (n : Nat) (hn : gs.length = n) : (w3.alloc o).ownsRow (g + 1) 60 1 v n (gs.map fun x => Value.pointer (some ⟨x, 0, none⟩)) := by
  subst hn
  have hg : q < g := Nat.lt_of_lt_of_le h.ql h.lo
  refine own_ptr (Own1.alloc (Own1.stay h1 (fun b hb hl => ?_)) o)
  have := (h1.block b hb).1
  obtain ⟨m, rfl⟩ := hd
  exact hm.high b (by omega) hl
/-- the box behind the append -/
theorem WS.box5 (h : WS q a c sz l W g k s ts j X v) {Xd w3 w5 : World} (hd : Quiet X Xd) (hm : Mv q Xd w3) (o : Obj) (hgrow : (w3.alloc o).grownBy w5 v.ownBlock) : Blk w5 g 91 #[.int .i64 (k : Int), .string (txt s), .int .i64 0, .slice none 0 0, v] := by
  obtain ⟨gs, h1, h2⟩ := h.row
  have hg : q < g := Nat.lt_of_lt_of_le h.ql h.lo
  have b3 := hm.blk (h.quiet hd).box hg
  refine (b3.alloc o).keep (hgrow.block g (by have := b3.lt; rw [World.size_alloc]; omega) (fun e => ?_))
  have := (h1.block g e.symm).1
  omega
/-- a part more: behind the call, the row's alloc, the append, the store -/
theorem WS.push (h : WS q a c sz l W g k s ts j X v) {Xd w3 w5 : World} {t : Tr} {g1 j' b cap n : Nat} {xs : List Value} {u : Value} (hd : Quiet X Xd) (hm : Mv q Xd w3) (ht : TreeAt w3 X.heap.size t g1) (hp : PSt q a c sz l j' w3)
    {gs : List Nat} (h1 : Own1 X (g + 1) 60 1 IsPtr v gs) (h2 : TreesIn X (fun b => g + 1 ≤ b ∧ v.ownBlock ≠ some b) ts gs) (hl : gs.length = n) (hx : xs = gs.map fun x => Value.pointer (some ⟨x, 0, none⟩))
    (hown : w5.ownsRow (g + 1) 60 1 (.slice (some ⟨b, 0, none⟩) (n + 1) cap) (n + 1) (xs ++ [.pointer (some ⟨g1, 0, none⟩)]))
    (hgrow : (w3.alloc (.cells #[.pointer (some ⟨g1, 0, none⟩)] 60)).grownBy w5 v.ownBlock) (hat : v.ownBlock = some b ∨ b = w3.heap.size + 1) (hu : u = .slice (some ⟨b, 0, none⟩) (n + 1) cap) :
    WS q a c sz l W g k s (ts ++ [t]) j' (w5.setCell ⟨g, 4, none⟩ u) (.slice (some ⟨b, 0, none⟩) (n + 1) cap) := by
  subst hu
  have h' := h.quiet hd
  have hg : q < g := Nat.lt_of_lt_of_le h.ql h.lo
  have hgX := h.box.lt
  have hsz : Xd.heap.size = X.heap.size := by obtain ⟨m, rfl⟩ := hd; rfl
  have hvb : ∀ b', v.ownBlock = some b' → g + 1 ≤ b' ∧ b' < X.heap.size := fun b' hb' => h1.block b' hb'
  have hsz3 := hm.low.size
  have h4 : ∀ b', b' < w3.heap.size → (w3.alloc (.cells #[.pointer (some ⟨g1, 0, none⟩)] 60)).heap[b']? = w3.heap[b']? := fun b' hb' => Below.heap_alloc w3 _ b' hb'
  have h5 : ∀ b', b' < w3.heap.size → v.ownBlock ≠ some b' → w5.heap[b']? = w3.heap[b']? := fun b' hb' hne => (hgrow.block b' (by rw [World.size_alloc]; omega) (fun e => hne e.symm)).trans (h4 b' hb')
  have h6 : ∀ b', b' ≠ g → (w5.setCell ⟨g, 4, none⟩ (.slice (some ⟨b, 0, none⟩) (n + 1) cap)).heap[b']? = w5.heap[b']? := fun b' hb' => Below.heap_setCell w5 ⟨g, 4, none⟩ _ b' hb'
  have hsz5 : w3.heap.size + 1 ≤ w5.heap.size := by have := hgrow.size; rw [World.size_alloc] at this; exact this
  have hqv : v.ownBlock ≠ some q := fun e => by have := hvb q e; omega
  have hgv : v.ownBlock ≠ some g := fun e => by have := hvb g e; omega
  have hW3 : W.heap.size ≤ X.heap.size := h.mv.low.size
  have hb1 : ∀ b', X.heap.size ≤ b' → b' < w3.heap.size → b' ≠ b := fun b' k1 k2 e => by
    rcases hat with e2 | e2
    · have := hvb b e2; omega
    · omega
  -- the parser's state
  have st4 := hp.keep ((Below.refl w3.heap.size w3).alloc (Nat.le_refl _) (.cells #[.pointer (some ⟨g1, 0, none⟩)] 60))
  have bl5 : Below g (w3.alloc (.cells #[.pointer (some ⟨g1, 0, none⟩)] 60)) w5 := (Below.refl _ _).grown hgrow (by rw [World.size_alloc]; omega) (fun b' hb' => by have := hvb b' hb'; omega)
  have st5 : PSt q a c sz l j' w5 := st4.mv (bl5.mono (Nat.le_of_lt hg)) (st4.box.below bl5 hg) st4.le
  have mv3 : Mv q W w3 := h'.mv.trans hm
  have mv5 : Mv q W w5 := by
    refine ⟨(mv3.low.trans ((Below.refl w3.heap.size w3).alloc (Nat.le_refl _) _ |>.mono (by have := hp.box.lt; omega))).trans (bl5.mono (Nat.le_of_lt hg)), fun b' k1 k2 => ?_⟩
    rw [h5 b' (by have := mv3.low.size; omega) (fun e => by have := hvb b' e; have := h.lo; omega)]
    exact mv3.high b' k1 k2
  have bx3 : Blk w3 g 91 #[.int .i64 (k : Int), .string (txt s), .int .i64 0, .slice none 0 0, v] := hm.blk h'.box hg
  have bx5 : Blk w5 g 91 #[.int .i64 (k : Int), .string (txt s), .int .i64 0, .slice none 0 0, v] := bx3.keep (h5 g (by omega) hgv)
  refine ⟨mv5.setNew (p := ⟨g, 4, none⟩) _ (Nat.le_of_lt hg) h.lo, st5.setFar (p := ⟨g, 4, none⟩) _ hg, by have := bx5.set_ 4 (.slice (some ⟨b, 0, none⟩) (n + 1) cap); simpa using this, h.lo, h.ql, gs ++ [g1], ?_, ?_⟩
  · refine Own1.stay (w := w5) ⟨_, by rw [List.length_append, hl]; exact hown, ?_⟩ (fun b' hb' _ => h6 b' ?_)
    · rw [hx]
      refine ⟨by simp, fun i y hy => ?_⟩
      have e : (gs.map fun x => Value.pointer (some ⟨x, 0, none⟩)) ++ [Value.pointer (some ⟨g1, 0, none⟩)] = (gs ++ [g1]).map fun x => Value.pointer (some ⟨x, 0, none⟩) := by simp
      rw [e, Nat.mul_one]
      unfold IsPtr
      have hlt := (List.getElem?_eq_some_iff.1 hy).1
      apply List.ext_getElem?
      intro m
      rw [List.getElem?_take]
      rcases m with _ | m
      · simp only [Nat.zero_lt_one, if_true, List.getElem?_drop, Nat.add_zero, List.getElem?_map, hy, Option.map_some]
        rfl
      · simp
    · have : b' = b := by simp [Value.ownBlock] at hb'; exact hb'.symm
      subst this
      rcases hat with e2 | e2
      · have := hvb b' e2; omega
      · omega
  · refine TreesIn.app ?_ ?_
    · have t3 : TreesIn (w5.setCell ⟨g, 4, none⟩ (.slice (some ⟨b, 0, none⟩) (n + 1) cap)) (fun b' => (g + 1 ≤ b' ∧ v.ownBlock ≠ some b') ∧ b' < X.heap.size) ts gs := by
        refine TreesIn.stay (w := X) (fun b' hb' hl => ?_) (h2.imp (fun b' hb' hl => ⟨hb', hl⟩))
        rw [h6 b' (by omega), h5 b' (by omega) hb'.1.2, hm.high b' (by omega) (by omega)]
        obtain ⟨m, rfl⟩ := hd
        rfl
      refine t3.imp (fun b' hb' _ => ⟨hb'.1.1, fun e => ?_⟩)
      have e' : b = b' := by simpa [Value.ownBlock] using e
      subst e'
      rcases hat with e2 | e2
      · exact hb'.1.2 e2
      · omega
    · have t3 : TreeIn (w5.setCell ⟨g, 4, none⟩ (.slice (some ⟨b, 0, none⟩) (n + 1) cap)) (fun b' => X.heap.size ≤ b' ∧ b' < w3.heap.size) t g1 := by
        refine TreeIn.stay (w := w3) (fun b' hb' hl => ?_) (TreeIn.imp (fun b' hb' hl => ⟨hb', hl⟩) ht)
        rw [h6 b' (by omega), h5 b' hl (fun e => by have := hvb b' e; omega)]
      refine t3.imp (fun b' hb' _ => ⟨by omega, fun e => ?_⟩)
      have e' : b = b' := by simpa [Value.ownBlock] using e
      subst e'
      exact hb1 b hb'.1 hb'.2 rfl
end
end Go.Proofs.YtlenenfgedgmhaaDoor
