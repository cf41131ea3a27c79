/- An expression's text, in plain words; what tell has written so far. -/
import Derived.Test.YtlenenfgedgmhaaDoorTl0
import Derived.Test.YtlenenfgedgmhaaDoorBuild
import Derived.Defers
namespace Go.Proofs.YtlenenfgedgmhaaDoor
set_option linter.unusedSimpArgs false
set_option linter.unusedVariables false
open Go.RowKit

/-- the text of a node's part -/
def kidT (g : Nat → Nat → List Nat) (d : ND) (i t : Nat) : List Nat := match d.kids[i]? with
  | some k => g k.toNat t
  | none => []
/-- a node's text without brackets -/
def bodyT (g : Nat → Nat → List Nat) (d : ND) : List Nat :=
  if d.kind = 1 then showN d.num
  else if d.kind = 2 then quoteN d.text
  else if d.kind = 7 then d.text
  else if levelN d.kind = 7 then kidT g d 0 7 ++ (markT d.kind ++ d.text)
  else if d.kind = 29 then [110, 111, 116, 32] ++ kidT g d 0 3
  else if levelN d.kind < 7 then kidT g d 0 (if levelN d.kind = 4 then 5 else levelN d.kind) ++ (([32] ++ markT d.kind) ++ [32]) ++ kidT g d 1 (levelN d.kind + 1)
  else if d.kind = 30 then [105, 102, 32] ++ kidT g d 0 0 ++ [32, 116, 104, 101, 110, 32] ++ kidT g d 1 0 ++ [32, 101, 108, 115, 101, 32] ++ kidT g d 2 0 ++ [32, 101, 110, 100]
  else if 31 ≤ d.kind then (((wordT d.kind ++ [32]) ++ d.text) ++ [32, 105, 110, 32]) ++ kidT g d 0 0 ++ [58, 32] ++ kidT g d 1 0 ++ [32, 101, 110, 100]
  else if d.kids.length = 1 then (wordT d.kind ++ [40]) ++ kidT g d 0 0 ++ [41]
  else wordT d.kind
/-- a node's text, in brackets if it is not as tight as that -/
def tellN (l : List ND) : Nat → Nat → Nat → List Nat
  | 0, _, _ => []
  | f + 1, m, t => match l[m]? with
    | none => []
    | some d => if levelN d.kind < t then [40] ++ bodyT (tellN l f) d ++ [41] else bodyT (tellN l f) d
theorem metL_kid {g : Nat → Option (Nat × Nat)} : ∀ {ks : List Int} {n dp : Nat} {r : Nat × Nat} {i : Nat} {k : Int}, metL g ks n dp = some r → ks[i]? = some k → ∃ (y : Nat) (x : Nat × Nat), k = (y : Int) ∧ g y = some x
  | [], n, dp, r, i, k, _, hk => by simp at hk
  | k0 :: ks, n, dp, r, i, k, h, hk => by
    simp only [metL] at h
    split at h
    · rename_i he
      split at h
      · cases h
      · rename_i x hx
        cases i with
        | zero => simp at hk; subst hk; exact ⟨n, x, he, hx⟩
        | succ i => simp only [List.getElem?_cons_succ] at hk; exact metL_kid h hk
    · cases h
set_option maxRecDepth 100000 in
set_option maxHeartbeats 2000000 in
theorem write_text_d {w : World} (u : FrameMode) {B b : Nat} {l : List Nat} (s : ByteArray) (h : BuiltSt w B b l) (hlen : l.length + s.size ≤ 140737488355328) (hBw : B ≤ w.heap.size) :
    CallsD Tryd.prog 56 #[.pointer (some ⟨b, 0, none⟩), .string s] u w fun e u' w' => u' = u ∧ (e = .returned (.tuple #[.int .i64 s.size, .nilIface]) ∧ (BuiltSt w' B b (l ++ bs s) ∧ Below B w w' ∧ KeptBut b w w')) := by
  obtain ⟨j, hi, hz, hsz, hby⟩ := info_parts info_u8
  have I := Lib.hid (And.intro hi (And.intro hz (And.intro hsz hby)))
  have CC := Lib.hid (copy_check h)
  have hBb := h.1
  clear hi hz hsz hby h
  go_enter_d Tryd.func56, Tryd.ntmps56
  go_wp2_with (first
    | (go_at_call 83
       refine CC.out.mono ?_
       rintro e w1 ⟨rfl, hst, hb1, hk1⟩
       obtain ⟨_, p, v, hp, hbk, hown⟩ := hst
       obtain ⟨va, vc, rfl⟩ := hown.form
       have c1 := hbk.cell (i := 1) rfl
       have hlt := hbk.lt
       have hz1 := hb1.size
       have hBz : B ≤ w1.heap.size := Nat.le_trans hBw hz1
       have HB := Lib.hid (And.intro hp (And.intro hbk hown))
       have H1 := Lib.hid (And.intro hb1 hk1)
       clear hp hbk hown hb1 hk1 CC)
    | (at_builtin
       go_must (refine wpList_append_text' rfl (.tmp 12) (.tmp 13) _ _ rfl B 5 j Tryd.underlying73 Tryd.underlying9 I.out.1 I.out.2.1 I.out.2.2.1 I.out.2.2.2 (.slice va l.length vc) l rfl (by exact HB.out.2.2) s rfl (by unfold maxLen; omega) (by omega) (by omega) ?_)
       intro xa xn xc w2 hown hgr
       have hb2 : Blk w2 b 75 #[p, .slice va l.length vc] := HB.out.2.1.grown hgr (fun e => own_ne HB.out.2.2 HB.out.2.1 (by decide) e.symm)
       have d1 := hb2.cell (i := 1) rfl
       have f1 := hb2.frozen 1
       have H2 := Lib.hid (And.intro hb2 (And.intro hown hgr))
       clear hb2 hown hgr c1 hlt))
  go_ret2
  obtain ⟨hp, hbk, hown0⟩ := HB.out
  obtain ⟨hb2, hown, hgr⟩ := H2.out
  exact ⟨rfl, ⟨hBb, _, _, hp, hb2.set_ 1 _, hown.setOther (own_ne hown hb2 (by decide)) _⟩, (H1.out.1.trans (below_of_grown hown0 (by omega) hgr)).setCell (p := ⟨b, 1, none⟩) hBb _, (H1.out.2.trans (KeptBut.of_grown hown0 hgr)).trans (KeptBut.of_set 1 _)⟩
/-- what tell has written so far, and its own boxes: the builder's pointer, the expression, the node -/
structure TS (B b bb eb nb : Nat) (v : Value) (cs : Array Value) (W Y : World) (o : List Nat) : Prop where
  st : BuiltSt Y B b o
  low : Below B W Y
  kept : KeptBut b W Y
  bx : Blk Y bb 72 #[.pointer (some ⟨b, 0, none⟩)]
  ex : Blk Y eb 24 #[v]
  nx : Blk Y nb 46 cs
  nb1 : bb ≠ b
  nb2 : eb ≠ b
  nb3 : nb ≠ b
  big : B ≤ W.heap.size
section
variable {B b bb eb nb : Nat} {v : Value} {cs : Array Value} {W Y Y' : World} {o o' : List Nat}
theorem TS.step (h : TS B b bb eb nb v cs W Y o) (h1 : BuiltSt Y' B b o') (h2 : Below B Y Y') (h3 : KeptBut b Y Y') : TS B b bb eb nb v cs W Y' o' :=
  ⟨h1, h.low.trans h2, h.kept.trans h3, h3 _ _ _ h.bx (by decide) h.nb1, h3 _ _ _ h.ex (by decide) h.nb2, h3 _ _ _ h.nx (by decide) h.nb3, h.nb1, h.nb2, h.nb3, h.big⟩
theorem KeptBut.of_below {b : Nat} {w w' : World} (h : Below w.heap.size w w') : KeptBut b w w' := fun _ _ _ hb _ _ => hb.below h hb.lt
/-- more memory, nothing written -/
theorem TS.keep (h : TS B b bb eb nb v cs W Y o) (hb : Below Y.heap.size Y Y') : TS B b bb eb nb v cs W Y' o :=
  h.step (h.st.keep hb) (hb.mono (Nat.le_trans h.big h.low.size)) (KeptBut.of_below hb)
theorem TS.bigY (h : TS B b bb eb nb v cs W Y o) : B ≤ Y.heap.size := Nat.le_trans h.big h.low.size
/-- a text more -/
theorem TS.write (h : TS B b bb eb nb v cs W Y o) (s : List Nat) (hs : Bytes s) (hl : o.length + s.length ≤ 1099511627776) :
    Calls Tryd.prog 56 #[.pointer (some ⟨b, 0, none⟩), .string (txt s)] Y fun e w' => e = .returned (.tuple #[.int .i64 (s.length : Int), .nilIface]) ∧ TS B b bb eb nb v cs W w' (o ++ s) := by
  refine (write_text (txt s) h.st (by rw [txt_size]; omega) h.bigY).mono ?_
  rintro e w' ⟨rfl, h1, h2, h3⟩
  rw [bs_txt hs] at h1
  exact ⟨by rw [txt_size], h.step h1 h2 h3⟩
end
end Go.Proofs.YtlenenfgedgmhaaDoor
