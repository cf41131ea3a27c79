/- The statements' beginning, 'awake', returns true; rows of tokens compared but for their places. -/
import Derived.Test.YtjjppnfdnjdhlaaDoorSteps
import Derived.Test.YtjjppnfdnjdhlaaDoorJoin
import Derived.Test.YtjjppnfdnjdhlaaDoorAlike
namespace Go.Proofs.YtjjppnfdnjdhlaaDoor
open Go.RowKit

def t1L : List Nat := [115, 101, 108, 102, 46, 97, 45, 62, 98]
def t1R : List Tok := [⟨4, [115, 101, 108, 102], 0, 0⟩, ⟨5, [46], 0, 4⟩, ⟨3, [97], 0, 5⟩, ⟨5, [45, 62], 0, 6⟩, ⟨3, [98], 0, 8⟩]
theorem sc1 : scanN t1L = (t1R, 0, 0) := by decide +kernel
theorem sc2 : scanN [97, 32, 61, 32, 98] = ([], 3, 70) := by decide +kernel
theorem sc3 : scanN [48, 48, 55] = ([], 1, 70) := by decide +kernel
def j1L : List Tok := [⟨1, [], 12, 0⟩, ⟨5, [45, 62], 0, 0⟩, ⟨2, [97], 0, 0⟩]
theorem jn1 : joinN j1L = ([49, 50, 32, 45, 62, 32, 34, 97, 34], 0) := by
  have h12 : showN 12 = [49, 50] := by
    unfold showN
    rw [if_neg (by omega)]
    rw [show (12 : Int).toNat = 12 from rfl, dec_big (by omega), dec_small (by omega)]
    rfl
  have ha : j1L.all mayN = true := by decide
  have hj : joinAll [] true j1L = [49, 50, 32, 45, 62, 32, 34, 97, 34] := by
    simp only [j1L, joinAll, shownN, h12, if_true]
    decide
  unfold joinN
  rw [if_pos ha, hj]
  rfl
theorem jn2 : joinN [⟨3, [110, 111, 116], 0, 0⟩] = ([], 2) := by
  unfold joinN
  rw [if_neg (by decide)]

theorem flat_toks : ∀ (l : List Tok), (∀ t ∈ l, t.ok) → FlatR 4 Tok.Is (l.flatMap Tok.cells) l
  | [], _ => FlatR.nil_
  | t :: r, h => by
    have h1 : FlatR 4 Tok.Is t.cells [t] := FlatR.one rfl ⟨rfl, h t (by simp)⟩
    have := h1.app (flat_toks r (fun x hx => h x (List.mem_cons_of_mem _ hx)))
    exact this
/-- a row of tokens in a block of its own -/
theorem toks_read {w : World} {g : Nat} {cs : List Value} (l : List Tok) (hl : ∀ t ∈ l, t.ok) (hm : l.length ≤ maxLen) (hcs : cs = l.flatMap Tok.cells) (hb : Blk w g 30 cs.toArray) (n c : Nat) (hn : n = l.length) (hc : c = l.length) : SlR w w.heap.size 4 Tok.Is (.slice (some ⟨g, 0, none⟩) n c) l := by
  subst hn hc hcs
  have hf := flat_toks l hl
  have hlen := hf.1
  have : Own1 w 0 30 4 Tok.Is (.slice (some ⟨g, 0, none⟩) l.length l.length) l :=
    ⟨_, ⟨hlen, .inr ⟨g, l.length, (l.flatMap Tok.cells).toArray, rfl, Nat.zero_le _, hb, Nat.le_refl _, hm, by simpa using hlen, List.take_of_length_le (by rw [← hlen]; exact Nat.le_refl _)⟩⟩, hf⟩
  exact this.read (by omega)
theorem ok_of {k : Int} {s : List Nat} {v p : Int} (h1 : Bytes s) (h2 : s.length ≤ 100) (h3 : (Lit.int .i64 k).wf = true) (h4 : (Lit.int .i64 v).wf = true) (h5 : (Lit.int .i64 p).wf = true) : Tok.ok ⟨k, s, v, p⟩ := ⟨h1, by show s.length ≤ maxLen; unfold maxLen; omega, h3, h4, h5⟩
theorem j1_ok : ∀ t ∈ j1L, t.ok := by
  intro t ht
  simp only [j1L, List.mem_cons, List.not_mem_nil, or_false] at ht
  rcases ht with rfl | rfl | rfl <;> exact ok_of (by unfold Bytes; decide) (by decide) (by decide) (by decide) (by decide)
theorem j2_ok : ∀ t ∈ ([⟨3, [110, 111, 116], 0, 0⟩] : List Tok), t.ok := by
  intro t ht
  simp only [List.mem_cons, List.not_mem_nil, or_false] at ht
  subst ht
  exact ok_of (by unfold Bytes; decide) (by decide) (by decide) (by decide) (by decide)

set_option maxRecDepth 100000 in
set_option maxHeartbeats 8000000 in
theorem awake_any (w : World) (hm : Marks w) (hp : Pow w) : Calls Tryd.prog 14 #[] w fun e w' => e = .returned (.bool true) ∧ Below w.heap.size w w' := by
  have SA : Hid (∀ W, Below w.heap.size w W → Calls Tryd.prog 9 #[.string ⟨#[115, 101, 108, 102, 46, 97, 45, 62, 98]⟩] W (ScanIs W (t1R, 0, 0))) := Lib.hid (fun W hW => by
    have := scan_any ⟨#[115, 101, 108, 102, 46, 97, 45, 62, 98]⟩ (by decide) W (hm.below hW)
    rw [show bs ⟨#[115, 101, 108, 102, 46, 97, 45, 62, 98]⟩ = t1L from rfl, sc1] at this
    exact this)
  have SB : Hid (∀ W, Below w.heap.size w W → Calls Tryd.prog 9 #[.string ⟨#[97, 32, 61, 32, 98]⟩] W (ScanIs W ([], 3, 70))) := Lib.hid (fun W hW => by
    have := scan_any ⟨#[97, 32, 61, 32, 98]⟩ (by decide) W (hm.below hW)
    rw [show bs ⟨#[97, 32, 61, 32, 98]⟩ = [97, 32, 61, 32, 98] from rfl, sc2] at this
    exact this)
  have SC : Hid (∀ W, Below w.heap.size w W → Calls Tryd.prog 9 #[.string ⟨#[48, 48, 55]⟩] W (ScanIs W ([], 1, 70))) := Lib.hid (fun W hW => by
    have := scan_any ⟨#[48, 48, 55]⟩ (by decide) W (hm.below hW)
    rw [show bs ⟨#[48, 48, 55]⟩ = [48, 48, 55] from rfl, sc3] at this
    exact this)
  have JA : Hid (∀ (v : Value) (W : World), Below w.heap.size w W → SlR W W.heap.size 4 Tok.Is v j1L → Calls Tryd.prog 12 #[v] W fun e w' => e = .returned (.tuple #[.string ⟨#[49, 50, 32, 45, 62, 32, 34, 97, 34]⟩, .int .i64 0]) ∧ Below W.heap.size W w') := Lib.hid (fun v W hW h => by
    have := join_any W W h (Below.refl _ _) (by decide) (hm.below hW) (hp.below hW)
    rw [jn1] at this
    exact this)
  have JB : Hid (∀ (v : Value) (W : World), Below w.heap.size w W → SlR W W.heap.size 4 Tok.Is v [⟨3, [110, 111, 116], 0, 0⟩] → Calls Tryd.prog 12 #[v] W fun e w' => e = .returned (.tuple #[.string ⟨#[]⟩, .int .i64 2]) ∧ Below W.heap.size W w') := Lib.hid (fun v W hW h => by
    have := join_any W W h (Below.refl _ _) (by decide) (hm.below hW) (hp.below hW)
    rw [jn2] at this
    exact this)
  have tokA : True := trivial
  have tokB : True := trivial
  have tokC : True := trivial
  have tokD : True := trivial
  have tokE : True := trivial
  have x1 : (txt [115, 101, 108, 102]).toList = [115, 101, 108, 102] := by rw [ByteArray.toList_eq]; rfl
  have x2 : (txt [45, 62]).toList = [45, 62] := by rw [ByteArray.toList_eq]; rfl
  have x3 : (txt [98]).toList = [98] := by rw [ByteArray.toList_eq]; rfl
  clear hm hp
  go_enter Tryd.func14, Tryd.ntmps14
  go_wp2_with (first
    | (go_at_call 9
       have _t := tokA
       refine (SA.out _ (Below.refl _ _)).mono ?_
       rintro e w1 ⟨a1, n1, c1, rfl, o1, b1⟩
       have hn1 : n1 = 5 := by obtain ⟨_, _, h⟩ := o1.form; injection h
       subst hn1
       have O1 := Lib.hid (And.intro o1 b1)
       clear o1 b1 tokA _t)
    | (go_at_call 9
       have _t := tokB
       refine (SB.out _ O1.out.2).mono ?_
       rintro e w2 ⟨a2, n2, c2, rfl, _, b2⟩
       have O2 := Lib.hid (And.intro (O1.out.1.below b2 (Nat.le_refl _)) (O1.out.2.trans (b2.mono O1.out.2.size)))
       clear b2 tokB _t)
    | (go_at_call 9
       have _t := tokC
       refine (SC.out _ O2.out.2).mono ?_
       rintro e w3 ⟨a3, n3, c3, rfl, _, b3⟩
       have O3 := Lib.hid (And.intro (O2.out.1.below b3 (Nat.le_refl _)) (O2.out.2.trans (b3.mono O2.out.2.size)))
       have z3 := O3.out.2.size
       clear b3 tokC _t)
    | (go_at_call 12
       have _t := tokD
       refine (JA.out _ _ (O3.out.2.alloc z3 _) (toks_read j1L j1_ok (by decide) rfl (Blk.new w3 _ _) 3 3 rfl rfl)).mono ?_
       rintro e w4 ⟨rfl, b4⟩
       have O4 := Lib.hid (And.intro ((O3.out.1.alloc _).below b4 (Nat.le_refl _)) ((O3.out.2.alloc z3 _).trans (b4.mono (by simp; omega))))
       have z4 := O4.out.2.size
       clear b4 tokD _t)
    | (go_at_call 12
       have _t := tokE
       refine (JB.out _ _ (O4.out.2.alloc z4 _) (toks_read _ j2_ok (by decide) rfl (Blk.new w4 _ _) 1 1 rfl rfl)).mono ?_
       rintro e w5 ⟨rfl, b5⟩
       have O5 := Lib.hid (And.intro ((O4.out.1.alloc _).below b5 (Nat.le_refl _)) ((O4.out.2.alloc z4 _).trans (b5.mono (by simp; omega))))
       obtain ⟨b, off, x, rfl, hbB, hxl, ⟨rfl, _⟩, hx⟩ := (O5.out.1.read (by omega)).at_ (k := 0) rfl
       obtain ⟨b', off', x', hs', _, _, ⟨rfl, _⟩, hx3⟩ := (O5.out.1.read (by omega)).at_ (k := 3) rfl
       injection hs' with hs'
       injection hs' with e1 e2
       subst e1 e2
       obtain ⟨b', off', x', hs', _, _, ⟨rfl, _⟩, hx4⟩ := (O5.out.1.read (by omega)).at_ (k := 4) rfl
       injection hs' with hs'
       injection hs' with e1 e2
       subst e1 e2
       have h0 := hx 0 _ rfl
       have h1 := hx 1 _ rfl
       have h2 := hx 2 _ rfl
       have h3 := hx 3 _ rfl
       have h12 := hx3 0 _ rfl
       have h13 := hx3 1 _ rfl
       have h14 := hx3 2 _ rfl
       have h15 := hx3 3 _ rfl
       have h16 := hx4 0 _ rfl
       have h17 := hx4 1 _ rfl
       have h18 := hx4 2 _ rfl
       have h19 := hx4 3 _ rfl
       simp only [Nat.zero_mul, Nat.add_zero] at h0 h1 h2 h3
       clear b5 tokE _t hx hx3 hx4))
  go_ret
  exact ⟨rfl, O5.out.2⟩
end Go.Proofs.YtjjppnfdnjdhlaaDoor
