/- Taken over out of another chapter (its text ERn0): what is needed here. Taken over out of another chapter (its text ESame8): what is needed here. Taken over out of another chapter (its text ESameN): what is needed here. Taken over out of another chapter (its text CpU): what is needed here. Taken over out of another chapter (its text CrB): what is needed here. -/
import Derived.Test.YtdkoafmgenbkbaaDoorProg
import Derived.Test.YtdkoafmgenbkbaaDoorShelf
import Derived.Test.YtdkoafmgenbkbaaDoorCards
import Derived.Test.YtdkoafmgenbkbaaDoorTie
import Derived.Test.YtdkoafmgenbkbaaDoorKM1
import Derived.Test.YtdkoafmgenbkbaaDoorKM2
import Derived.Test.YtdkoafmgenbkbaaDoorKM4
import Derived.Below
import Derived.BigQuiet
import Derived.BigRegion
import Derived.Deep.AppendLies
import Derived.Deep.Draws
import Derived.Deep.Fields
import Derived.Deep.LoopGhost
import Derived.Deep.QuietTactic
import Derived.Deep.RegionHeld2
import Derived.Deep.RegionHeld3
import Derived.Deep.RegionLaw
import Derived.Deep.Slices
import Derived.Defers
import Derived.IntWalk
import Derived.Laws.BytesString
import Derived.Laws.EntriesVeiled
import Derived.Laws.IdiomStrings
import Derived.Laws.MakeOwn
import Derived.Laws.OwnMore
import Derived.Laws.Pointers
import Derived.Laws.Rows
import Derived.Lib.AppendStr
import Derived.Lib.Builder
import Derived.Lib.FrozenHead
import Derived.Lib.Hide
import Derived.Lib.ItoaNum
import Derived.Lib.ParseIntB
import Derived.Maps.AppendAt
import Derived.Outline
import Derived.OwnWalk
import Derived.ProofKit
import Derived.Recover
import Derived.RegionTactic
import Derived.StillTailTactics
import Derived.Tactics
import Derived.Tactics2
import Derived.WalkKit
import Derived.WalkMore
import Derived.WalkSmall
import Derived.WalkSpells
import Derived.Test.YtdkoafmgenbkbaaDoorKM3
import Derived.Test.YtdkoafmgenbkbaaDoorKCpR
import Derived.Deep.CutBlock
import Derived.Deep.CutRange
import Derived.Laws.Cover1
import Derived.Lib.CutLaws
import Derived.Lib.SliceRun
import Derived.Lib.SlicesS
import Derived.Orders
namespace Go.Proofs.YtdkoafmgenbkbaaDoor
set_option linter.unusedSimpArgs false
set_option linter.unusedVariables false
open Go.RowKit
theorem metL_congr {g g' : Nat → Option (Nat × Nat)} (hg : ∀ y r, g y = some r → y < r.2) : ∀ (ks : List Int) (p dp : Nat), (∀ y, p ≤ y → g y = g' y) → metL g ks p dp = metL g' ks p dp
  | [], p, dp, _ => rfl
  | k :: ks, p, dp, h => by
    simp only [metL]
    split
    · rw [← h p (Nat.le_refl _)]
      cases hx : g p with
      | none => rfl
      | some r =>
        have := hg p r hx
        exact metL_congr hg ks r.2 _ (fun y hy => h y (by omega))
    · rfl
/-- with fuel for all that stands behind, more fuel changes nothing -/
theorem met_fuel (l : List ND) : ∀ (f f' x : Nat), l.length ≤ x + f → l.length ≤ x + f' → metN l f x = metN l f' x
  | 0, 0, x, _, _ => rfl
  | 0, f' + 1, x, h, _ => by
    simp only [metN]
    rw [List.getElem?_eq_none (by omega)]
  | f + 1, 0, x, _, h => by
    simp only [metN]
    rw [List.getElem?_eq_none (by omega)]
  | f + 1, f' + 1, x, h, h' => by
    simp only [metN]
    cases l[x]? with
    | none => rfl
    | some d =>
      simp only
      split
      · rw [metL_congr (fun y r hr => (metN_in l f y r hr).1) d.kids (x + 1) 0 (fun y hy => met_fuel l f f' y (by omega) (by omega))]
      · rfl
/-- a node's reading by its parts', all with the same fuel -/
theorem met_step {l : List ND} {n i : Nat} {d : ND} (hn : l.length = n) (hd : l[i]? = some d) : metN l n i = if mayE d = true then (metL (metN l n) d.kids (i + 1) 0).map fun r => (r.1 + 1, r.2) else none := by
  have hi := (List.getElem?_eq_some_iff.1 hd).1
  obtain ⟨f, rfl⟩ : ∃ f, n = f + 1 := ⟨n - 1, by omega⟩
  rw [metN, hd]
  simp only
  split
  · rw [metL_congr (fun y r hr => (metN_in l f y r hr).1) d.kids (i + 1) 0 (fun y hy => met_fuel l f (f + 1) y (by omega) (by omega))]
  · rfl
/-- where a node is none, the whole is none -/
theorem right_no {l : List ND} (hok : ∀ d ∈ l, NdOk d) {i : Nat} (hi : i < l.length) (h : metN l l.length i = none) (h256 : l.length ≤ 256) : rightE l = 80 := by
  unfold rightE
  rw [if_neg (by omega)]
  cases hr : metN l l.length 0 with
  | none => rfl
  | some r =>
    simp only
    by_cases h2 : r.2 = l.length
    · exfalso
      obtain ⟨t, g1, g2, g3, _⟩ := metN_tree l hok _ _ _ hr
      subst g2
      simp only [Nat.zero_add] at h2
      have hsub : ∀ (t : Tr) (p i : Nat), i < t.size → Stands l t p → t.Good → ∃ f r, metN l f (p + i) = some r := by
        intro t
        suffices H : ∀ (N : Nat) (t : Tr), t.size ≤ N → ∀ (p i : Nat), i < t.size → Stands l t p → t.Good → ∃ f r, metN l f (p + i) = some r from fun p i => H t.size t (Nat.le_refl _) p i
        intro N
        induction N with
        | zero => intro t h; have := size_pos t; omega
        | succ N ih =>
          intro t hN p i hi hs hg
          rcases i with _ | i
          · exact ⟨_, _, (met_of t t.size p (Nat.le_refl _) hg hs).1⟩
          · obtain ⟨k, s, nm, ks⟩ := t
            have hs' := hs
            unfold Stands ndsT at hs
            simp only [Tr.size, Tr.flat, List.map_cons] at hs hi hN
            have htl : StandsL l ks (p + 1) := by
              have := congrArg (List.drop 1) hs
              unfold StandsL ndsL
              rw [List.drop_take, List.drop_drop, Nat.add_sub_cancel_left] at this
              exact this
            have kl : ∀ (ts : List Tr), sizeL ts ≤ N → GoodL ts → ∀ q j, j < sizeL ts → StandsL l ts q → ∃ f r, metN l f (q + j) = some r := by
              intro ts
              induction ts with
              | nil => intro _ _ q j hj; simp [sizeL] at hj
              | cons t ts iht =>
                intro hn hg q j hj hst
                simp only [sizeL] at hn hj
                unfold StandsL ndsL at hst
                simp only [sizeL, flatL, List.map_append] at hst
                rw [List.take_add] at hst
                have hln : ((l.drop q).take t.size).length = ((t.flat q).map EN.nd).length := by
                  have := congrArg List.length hst
                  simp only [List.length_append, List.length_take, List.length_drop, List.length_map, trFlat_len, trFlatL_len] at this ⊢
                  omega
                obtain ⟨e1, e2⟩ := List.append_inj hst hln
                rw [List.drop_drop] at e2
                by_cases hj2 : j < t.size
                · exact ih t (by omega) q j hj2 e1 hg.1
                · obtain ⟨f, r, hfr⟩ := iht (by omega) hg.2 (q + t.size) (j - t.size) (by omega) e2
                  exact ⟨f, r, by rw [← hfr]; congr 1; omega⟩
            obtain ⟨f, r, hfr⟩ := kl ks (by omega) hg.2 (p + 1) i (by omega) htl
            exact ⟨f, r, by rw [← hfr]; congr 1; omega⟩
      obtain ⟨f, r, hfr⟩ := hsub t 0 i (by omega) g3 g1
      rw [Nat.zero_add] at hfr
      have hin := metN_in l f i r hfr
      have mono : ∀ (f' : Nat), f ≤ f' → metN l f' i = some r := by
        intro f' hf
        have hm : ∀ (a b x : Nat) (q : Nat × Nat), a ≤ b → metN l a x = some q → metN l b x = some q := by
          intro a
          induction a with
          | zero => intro b x q _ h; simp only [metN] at h; cases h
          | succ a iha =>
            intro b x q hb h
            obtain ⟨b, rfl⟩ : ∃ c, b = c + 1 := ⟨b - 1, by omega⟩
            simp only [metN] at h ⊢
            cases hd : l[x]? with
            | none => rw [hd] at h; cases h
            | some d =>
              rw [hd] at h
              simp only at h ⊢
              split at h
              · rename_i hmay
                rw [if_pos hmay]
                obtain ⟨z, hz, rfl⟩ := Option.map_eq_some_iff.1 h
                have hml : ∀ (ks : List Int) (p dp : Nat) (z : Nat × Nat), metL (metN l a) ks p dp = some z → metL (metN l b) ks p dp = some z := by
                  intro ks
                  induction ks with
                  | nil => intro p dp z h; exact h
                  | cons k ks ihk =>
                    intro p dp z h
                    simp only [metL] at h ⊢
                    split at h
                    · rename_i e
                      rw [if_pos e]
                      cases hg : metN l a p with
                      | none => rw [hg] at h; cases h
                      | some w =>
                        rw [hg] at h
                        rw [iha b p w (by omega) hg]
                        exact ihk _ _ _ h
                    · cases h
                rw [hml _ _ _ _ hz]
                rfl
              · cases h
        exact hm f f' i r hf hfr
      have := mono (max f l.length) (by omega)
      rw [met_fuel l (max f l.length) l.length i (by omega) (by omega), h] at this
      cases this
    · rw [if_pos h2]
/-- the sizes and depths told of so far -/
def Tab (l : List ND) (n m : Nat) (SL DL : List Int) : Prop := SL.length = n ∧ DL.length = n ∧ (∀ x, m ≤ x → x < n → ∃ dp sz : Nat, metN l n x = some (dp, x + sz) ∧ SL[x]? = some (sz : Int) ∧ DL[x]? = some (dp : Int)) ∧ ∀ x, x < m → x < n → DL[x]? = some 0
theorem Tab.start (l : List ND) (n : Nat) : Tab l n n (List.replicate n 0) (List.replicate n 0) :=
  ⟨List.length_replicate, List.length_replicate, fun x h1 h2 => by omega, fun x _ h => by rw [List.getElem?_replicate, if_pos h]⟩
/-- a row of numbers -/
abbrev ArI (W : World) (base b n : Nat) (L : List Int) : Prop := Own1 W base 3 1 IsI (.slice (some ⟨b, 0, none⟩) n n) L
theorem zeros_cells (n : Nat) : (madeCells (Value.int .i64 0).cells (n * 1)).toList = List.replicate n (Value.int .i64 0) := by
  have h : (Value.int IntKind.i64 0).cells = #[.int .i64 0] := rfl
  rw [h, Nat.mul_one]
  unfold madeCells
  apply List.ext_getElem
  · simp
  · intro i h1 h2
    simp [Nat.mod_one]
section
variable {W W' : World} {base b n : Nat} {L : List Int}
theorem ArI.new (h : W.ownsRow base 3 1 (.slice (some ⟨b, 0, none⟩) n n) n (madeCells (Value.int .i64 0).cells (n * 1)).toList) : ArI W base b n (List.replicate n 0) := by
  rw [zeros_cells] at h
  refine ⟨_, by rw [List.length_replicate]; exact h, by simp, fun i y hy => ?_⟩
  rw [List.getElem?_replicate] at hy
  split at hy
  · rename_i hi
    injection hy with hy
    subst hy
    unfold IsI
    rw [Nat.mul_one, List.drop_replicate, List.take_replicate, show min 1 (n - i) = 1 by omega]
    rfl
  · cases hy
theorem ArI.len (h : ArI W base b n L) : L.length = n := by
  obtain ⟨a, c, he⟩ := h.form
  injection he with _ he
  exact he.symm
theorem ArI.cell (h : ArI W base b n L) {i : Nat} {z : Int} (hi : L[i]? = some z) : W.cell? ⟨b, i, none⟩ = some (.int .i64 z) := by
  have hl := (List.getElem?_eq_some_iff.1 hi).1
  obtain ⟨g, e, _, _, _, hat⟩ := h.at00 (by omega) (by omega)
  injection e with e
  injection e with e
  subst e
  obtain ⟨x, _, hx, hc⟩ := hat i z hi
  unfold IsI at hx
  subst hx
  have := hc 0 _ rfl
  simpa using this
theorem ArI.froz (h : ArI W base b n L) (hn : 0 < n) (i : Nat) : W.frozen? ⟨b, i, none⟩ = false := by
  obtain ⟨g, e, _, _, hf, _⟩ := h.at00 (by rw [h.len]; exact hn) (by omega)
  injection e with e
  injection e with e
  subst e
  exact hf i
theorem ArI.lt (h : ArI W base b n L) : base ≤ b ∧ b < W.heap.size := h.block b rfl
theorem ArI.set (h : ArI W base b n L) {i : Nat} (hi : i < n) (z : Int) : ArI (W.setCell ⟨b, i, none⟩ (.int .i64 z)) base b n (L.set i z) := by
  have hl := h.len
  obtain ⟨xs, h1, h2⟩ := h
  rw [hl] at h1
  refine ⟨xs.set i (.int .i64 z), by rw [List.length_set, hl]; exact (h1.stored i _).1, ?_⟩
  refine ⟨by rw [List.length_set, List.length_set]; exact h2.1, fun k y hy => ?_⟩
  have hxl : xs.length = n := by rw [h2.1, hl, Nat.mul_one]
  by_cases hk : k = i
  · subst hk
    rw [List.getElem?_set_self (by omega)] at hy
    injection hy with hy
    subst hy
    unfold IsI
    rw [Nat.mul_one, List.drop_eq_getElem_cons (by rw [List.length_set]; omega), List.take_succ_cons, List.take_zero, List.getElem_set_self]
  · rw [List.getElem?_set_ne (fun e => hk e.symm)] at hy
    have := h2.2 k y hy
    have hkl := (List.getElem?_eq_some_iff.1 hy).1
    unfold IsI at this ⊢
    rw [Nat.mul_one] at this ⊢
    rw [List.drop_eq_getElem_cons (by omega), List.take_succ_cons, List.take_zero] at this
    rw [List.drop_eq_getElem_cons (by rw [List.length_set]; omega), List.take_succ_cons, List.take_zero, List.getElem_set_ne (fun e => hk e.symm)]
    exact this
theorem ArI.far (h : ArI W base b n L) {p : Addr} (hp : p.block ≠ b) (u : Value) : ArI (W.setCell p u) base b n L :=
  h.stay (fun g hg _ => Below.heap_setCell W p u g (by
    simp [Value.ownBlock] at hg
    subst hg
    exact fun e => hp e.symm))
theorem ArI.keep (h : ArI W base b n L) (hb : Below W.heap.size W W') : ArI W' base b n L := h.stay (fun g _ hl => hb.block g hl)
end
end Go.Proofs.YtdkoafmgenbkbaaDoor
namespace Go.Proofs.YtdkoafmgenbkbaaDoor
set_option linter.unusedSimpArgs false
set_option linter.unusedVariables false
open Go.RowKit
/-- a region whose orders come to one form with two new blocks -/
theorem region_split2 {P : Program} {id : Nat} {ops : Array Oper} {dr : Bool} {Q : Exit → Act → World → Prop} {a : Act} {X : World} (R : Nat → Nat → World → Prop) (Fr : Nat → Nat → Act)
    (h : (∀ b1 b2 w6, R b1 b2 w6 → Q .normal (Fr b1 b2) w6) → Code.wp P (Code.region id ops dr) Q a X) (key : ∀ b1 b2 w6, R b1 b2 w6 → Q .normal (Fr b1 b2) w6) : Code.wp P (Code.region id ops dr) Q a X := h key
theorem two_new (w : World) (c1 c2 : Array Value) (t : TypeId) : Blk ((w.alloc (.cells c1 t)).alloc (.cells c2 t)).drew w.heap.size t c1 ∧ Blk ((w.alloc (.cells c1 t)).alloc (.cells c2 t)).drew (w.heap.size + 1) t c2 ∧ Below w.heap.size w ((w.alloc (.cells c1 t)).alloc (.cells c2 t)).drew := by
  have h1 : Blk ((w.alloc (.cells c1 t)).alloc (.cells c2 t)) w.heap.size t c1 := (Blk.new _ _ _).alloc _
  have h2 : Blk ((w.alloc (.cells c1 t)).alloc (.cells c2 t)) (w.heap.size + 1) t c2 := Blk.new_ (by rw [World.size_alloc]) _ _
  exact ⟨h1.below ((Below.refl _ _).drew) h1.lt, h2.below ((Below.refl _ _).drew) h2.lt, (((Below.refl _ _).alloc (Nat.le_refl _) _).alloc (by rw [World.size_alloc]; omega) _).drew⟩
end Go.Proofs.YtdkoafmgenbkbaaDoor
namespace Go.Proofs.YtdkoafmgenbkbaaDoor
set_option linter.unusedSimpArgs false
set_option linter.unusedVariables false
open Go.RowKit
/-- what of a node is compared -/
def ndK (d : ND) : Int × ByteArray × Int × List Int := (d.kind, txt d.text, d.num, d.kids)
theorem nd_ne_at {l m : List ND} {k : Nat} {x y : ND} (hx : l[k]? = some x) (hy : m[k]? = some y) (h : ndK x ≠ ndK y) : ¬ l.map ndK = m.map ndK := fun e => by
  have := congrArg (fun z => z[k]?) e
  simp only [List.getElem?_map, hx, hy, Option.map_some] at this
  injection this with this
  exact h this
theorem nd_eq_all {l m : List ND} (hl : l.length = m.length) (h : ∀ i x y, i < l.length → l[i]? = some x → m[i]? = some y → ndK x = ndK y) : l.map ndK = m.map ndK := by
  apply List.ext_getElem?
  intro i
  rw [List.getElem?_map, List.getElem?_map]
  rcases Nat.lt_or_ge i l.length with hi | hi
  · have h1 := List.getElem?_eq_getElem hi
    have h2 := List.getElem?_eq_getElem (show i < m.length by omega)
    rw [h1, h2]
    exact congrArg some (h i _ _ hi h1 h2)
  · rw [List.getElem?_eq_none hi, List.getElem?_eq_none (by omega)]
set_option maxRecDepth 100000 in
set_option maxHeartbeats 8000000 in
theorem ref8_any {l m : List ND} {v v' : Value} (w w0 : World) (hs : SlR w0 w0.heap.size 4 (ND.Is w0 w0.heap.size) v l) (ht : SlR w0 w0.heap.size 4 (ND.Is w0 w0.heap.size) v' m) (hw : Below w0.heap.size w0 w) :
    Calls Tryd.prog 14 #[.agg #[v], .agg #[v']] w fun e w' => e = .returned (.bool (decide (l.map ndK = m.map ndK))) ∧ Below w.heap.size w w' := by
  obtain ⟨a, c, rfl⟩ : ∃ a c, v = .slice a l.length c := by obtain ⟨a, c, h, _⟩ := hs.form; exact ⟨a, c, h⟩
  obtain ⟨a', c', rfl⟩ : ∃ a c, v' = .slice a m.length c := by obtain ⟨a, c, h, _⟩ := ht.form; exact ⟨a, c, h⟩
  have hn : l.length ≤ 9223372036854775807 := by have := hs.caps; unfold maxLen at this; omega
  obtain ⟨R, hR⟩ : ∃ R, decide (l.map ndK = m.map ndK) = R := ⟨_, rfl⟩
  rw [hR]
  have HR := Lib.hid hR
  clear hR
  have BX : Hid (Below w.heap.size w ((w.alloc (.cells #[.slice a l.length c] 38)).alloc (.cells #[.slice a' m.length c'] 38))) := Lib.hid (((Below.refl _ _).alloc (Nat.le_refl _) _).alloc (by rw [World.size_alloc]; omega) _)
  by_cases hl : l.length = m.length
  · obtain ⟨n, hlen⟩ : ∃ n, l.length = n := ⟨_, rfl⟩
    rw [← hl] at ht BX ⊢
    rw [hlen] at hs ht hn BX ⊢
    have Hlen := Lib.hid hlen
    have Hl := Lib.hid hl
    have Hs := Lib.hid hs
    have Ht := Lib.hid ht
    have Hw := Lib.hid hw
    clear hs ht hlen hw hl
    go_enter Tryd.func14, Tryd.ntmps14
    go_wp2_with fail
    generalize hwq : World.alloc (World.alloc _ _) _ = W1
    obtain ⟨g, hg⟩ : ∃ g, w.heap.size = g := ⟨_, rfl⟩
    have bA : Blk W1 g 38 #[.slice a n c] := by rw [← hwq, ← hg]; exact (Blk.new _ _ _).alloc _
    have bB : Blk W1 (g + 1) 38 #[.slice a' n c'] := by rw [← hwq, ← hg]; exact Blk.new_ (by rw [World.size_alloc]) _ _
    have B1 : Hid (Below g w W1) := Lib.hid (by rw [← hwq, ← hg]; exact BX.out)
    have BA := Lib.hid bA
    have BB := Lib.hid bB
    have HG := Lib.hid hg
    rw [hg]
    clear hwq bA bB BX hg
    go_loopw [5, 6, 7, 8] (fun j _ _ _ wr => ∃ k : Nat, k ≤ n ∧ j = .int .i64 (k : Int) ∧ Hid (Below W1.heap.size W1 wr) ∧ Hid (∀ i y z, i < k → l[i]? = some y → m[i]? = some z → ndK y = ndK z)) (fun j _ _ _ _ => n - (intOf j).toNat)
    case atStart => exact ⟨0, Nat.zero_le _, rfl, Below.refl _ _, fun i d _ hi => by omega⟩
    case round =>
      obtain ⟨k, hk, rfl, hb, hf⟩ := hrel
      have c1 : (0 : Int) ≤ (k : Int) := Int.natCast_nonneg _
      have q0 : wr.cell? ⟨g, 0, none⟩ = some (.slice a n c) := (BA.out.below hb.out BA.out.lt).cell rfl
      have q1 : wr.cell? ⟨g + 1, 0, none⟩ = some (.slice a' n c') := (BB.out.below hb.out BB.out.lt).cell rfl
      by_cases hlt : k < n
      · obtain ⟨⟨yk, yt, yn, yks⟩, hd⟩ := get_some Hlen.out hlt
        obtain ⟨⟨zk, zt, zn, zks⟩, he⟩ := get_some (Hl.out.symm.trans Hlen.out) hlt
        have hw1 : Below w0.heap.size w0 wr := (Hw.out.trans (B1.out.mono (by rw [← HG.out]; exact Hw.out.size))).trans (hb.out.mono (by have := B1.out.size; have := Hw.out.size; omega))
        obtain ⟨b, off, x, rfl, hbB, hxl, ⟨kv, rfl, hks⟩, hx⟩ := (Hs.out.below hw1).at_ hd
        obtain ⟨b', off', x', rfl, hbB', hxl', ⟨kv', rfl, hks'⟩, hx'⟩ := (Ht.out.below hw1).at_ he
        simp only at hks hks' hx hx'
        obtain ⟨ya, yc, rfl, _⟩ := hks.form
        obtain ⟨za, zc, rfl, _⟩ := hks'.form
        have h0 := hx 0 _ rfl
        have h1 := hx 1 _ rfl
        have h2 := hx 2 _ rfl
        have h3 := hx 3 _ rfl
        have g0 := hx' 0 _ rfl
        have g1 := hx' 1 _ rfl
        have g2 := hx' 2 _ rfl
        have g3 := hx' 3 _ rfl
        simp only [Nat.add_zero] at h0 g0
        have Hd := Lib.hid hd
        have He := Lib.hid he
        have HY := Lib.hid (hks.below hw1)
        have HZ := Lib.hid (hks'.below hw1)
        have djk : decide (k < n) = true := by simpa using hlt
        have djk2 : (k : Int) < (n : Int) := by omega
        clear hd he hx hxl hx' hxl' hks hks'
        go_wp2_with fail
        have n0 := World.new_ne wr _ q0
        have n1 := World.new_ne wr _ q1
        have n2 := World.new_ne wr _ h0
        have n3 := World.new_ne wr _ g0
        refine' region_split2 (fun b1 b2 w6 => Blk w6 b1 80 #[.int .i64 (yk : Int), .string (txt yt), .int .i64 yn, .slice ya yks.length yc] ∧ Blk w6 b2 80 #[.int .i64 (zk : Int), .string (txt zt), .int .i64 zn, .slice za zks.length zc] ∧ Below wr.heap.size wr w6) _ ?_ ?_
        rotate_left
        · intro key
          have KEY := Lib.hid key
          clear key
          go_region_held3 (fun w' => w'.cell? ⟨g, 0, none⟩ = some (.slice (some ⟨b, off, none⟩) n c) ∧ w'.cell? ⟨g + 1, 0, none⟩ = some (.slice (some ⟨b', off', none⟩) n c') ∧ w'.cell? ⟨b, off + k * 4, none⟩ = some (.int .i64 (yk : Int)) ∧ w'.cell? ⟨b, off + k * 4 + 1, none⟩ = some (.string (txt yt)) ∧ w'.cell? ⟨b, off + k * 4 + 2, none⟩ = some (.int .i64 yn) ∧ w'.cell? ⟨b, off + k * 4 + 3, none⟩ = some (.slice ya yks.length yc) ∧ w'.cell? ⟨b', off' + k * 4, none⟩ = some (.int .i64 (zk : Int)) ∧ w'.cell? ⟨b', off' + k * 4 + 1, none⟩ = some (.string (txt zt)) ∧ w'.cell? ⟨b', off' + k * 4 + 2, none⟩ = some (.int .i64 zn) ∧ w'.cell? ⟨b', off' + k * 4 + 3, none⟩ = some (.slice za zks.length zc))
            (first | go_keep | fail)
            (first | fail)
          all_goals
            have t1 := two_new wr #[.int .i64 (yk : Int), .string (txt yt), .int .i64 yn, .slice ya yks.length yc] #[.int .i64 (zk : Int), .string (txt zt), .int .i64 zn, .slice za zks.length zc] 80
            have t2 := two_new wr #[.int .i64 (zk : Int), .string (txt zt), .int .i64 zn, .slice za zks.length zc] #[.int .i64 (yk : Int), .string (txt yt), .int .i64 yn, .slice ya yks.length yc] 80
            generalize hwq : World.drew (World.alloc (World.alloc _ _) _) = W6
            obtain ⟨p2, hp2⟩ : ∃ z, wr.heap.size + 1 = z := ⟨_, rfl⟩
            first
              | (rw [hwq] at t1
                 rw [hp2] at t1 ⊢
                 clear t2 hp2 hwq
                 obtain ⟨p1, hp1⟩ : ∃ z, wr.heap.size = z := ⟨_, rfl⟩
                 rw [hp1] at t1 ⊢
                 exact KEY.out p1 p2 W6 ⟨t1.1, t1.2.1, by rw [hp1]; exact t1.2.2⟩)
              | (rw [hwq] at t2
                 rw [hp2] at t2 ⊢
                 clear t1 hp2 hwq
                 obtain ⟨p1, hp1⟩ : ∃ z, wr.heap.size = z := ⟨_, rfl⟩
                 rw [hp1] at t2 ⊢
                 exact KEY.out p2 p1 W6 ⟨t2.2.1, t2.1, by rw [hp1]; exact t2.2.2⟩)
        · intro b1 b2 W6 h6
          obtain ⟨h61, h62, h63⟩ := h6
          have a0 : W6.cell? ⟨b1, 0, none⟩ = some (.int .i64 (yk : Int)) := h61.cell rfl
          have a1 : W6.cell? ⟨b1, 1, none⟩ = some (.string (txt yt)) := h61.cell rfl
          have a2 : W6.cell? ⟨b1, 2, none⟩ = some (.int .i64 yn) := h61.cell rfl
          have a3 : W6.cell? ⟨b1, 3, none⟩ = some (.slice ya yks.length yc) := h61.cell rfl
          have z0 : W6.cell? ⟨b2, 0, none⟩ = some (.int .i64 (zk : Int)) := h62.cell rfl
          have z1 : W6.cell? ⟨b2, 1, none⟩ = some (.string (txt zt)) := h62.cell rfl
          have z2 : W6.cell? ⟨b2, 2, none⟩ = some (.int .i64 zn) := h62.cell rfl
          have z3 : W6.cell? ⟨b2, 3, none⟩ = some (.slice za zks.length zc) := h62.cell rfl
          have B6 : Hid (Below w.heap.size w W6) := Lib.hid (by rw [HG.out]; exact B1.out.trans ((hb.out.mono (by have := B1.out.size; have := HG.out; omega)).trans (h63.mono (by have := B1.out.size; have := hb.out.size; have := HG.out; omega))))
          have B6' : Hid (Below W1.heap.size W1 W6) := Lib.hid (hb.out.trans (h63.mono hb.out.size))
          have HY6 := Lib.hid (HY.out.below (h63.mono (by have := hw1.size; omega)))
          have HZ6 := Lib.hid (HZ.out.below (h63.mono (by have := hw1.size; omega)))
          have HF : Hid (ndK ⟨yk, yt, yn, yks⟩ ≠ ndK ⟨zk, zt, zn, zks⟩ → R = false) := Lib.hid (fun h => by rw [← HR.out, decide_eq_false_iff_not]; exact nd_ne_at Hd.out He.out h)
          clear n0 n1 n2 n3 q0 q1 h0 h1 h2 h3 g0 g1 g2 g3 h61 h62 h63 HY HZ hw1 BA BB
          by_cases e0 : yk = zk
          rotate_left
          · have hv : R = false := HF.out (fun e => e0 (congrArg (·.1) e))
            subst hv
            have m1 : ((yk : Int) != (zk : Int)) = true := by rw [bne_iff_ne]; omega
            have m2 : ((yk : Int) == (zk : Int)) = false := by rw [beq_eq_false_iff_ne]; omega
            have m3 : ¬ (yk : Int) = (zk : Int) := by omega
            clear e0
            go_wp2_with fail
            go_ret
            exact ⟨rfl, B6.out⟩
          subst e0
          obtain ⟨ty, hty⟩ : ∃ z, txt yt = z := ⟨_, rfl⟩
          obtain ⟨tz, htz⟩ : ∃ z, txt zt = z := ⟨_, rfl⟩
          rw [hty] at a1
          rw [htz] at z1
          by_cases e1 : ty = tz
          rotate_left
          · have hv : R = false := HF.out (fun e => e1 (by rw [← hty, ← htz]; exact congrArg (·.2.1) e))
            subst hv
            have m2 : (ty.toList == tz.toList) = false := by rw [beq_eq_false_iff_ne]; exact fun h => e1 ((toList_inj _ _).1 h)
            have m1 : (ty.toList != tz.toList) = true := by rw [bne, m2]; rfl
            have m3 : ¬ ty.toList = tz.toList := by simpa using m2
            clear e1 hty htz
            go_wp2_with fail
            go_ret
            exact ⟨rfl, B6.out⟩
          subst e1
          have HTX := Lib.hid (hty.trans htz.symm)
          clear hty htz
          by_cases e2 : yn = zn
          rotate_left
          · have hv : R = false := HF.out (fun e => e2 (congrArg (·.2.2.1) e))
            subst hv
            have m1 : (yn != zn) = true := by rw [bne_iff_ne]; exact e2
            have m2 : (yn == zn) = false := by rw [beq_eq_false_iff_ne]; exact e2
            clear e2
            go_wp2_with fail
            go_ret
            exact ⟨rfl, B6.out⟩
          subst e2
          obtain ⟨ny, hny⟩ : ∃ z, yks.length = z := ⟨_, rfl⟩
          obtain ⟨nz, hnz⟩ : ∃ z, zks.length = z := ⟨_, rfl⟩
          have ny63 : ny ≤ 9223372036854775807 := by have := HY6.out.caps; unfold maxLen at this; omega
          rw [hny] at a3 HY6
          rw [hnz] at z3 HZ6
          by_cases e3 : ny = nz
          rotate_left
          · have hv : R = false := HF.out (fun e => e3 (by rw [← hny, ← hnz]; exact congrArg (fun z => z.2.2.2.length) e))
            subst hv
            have m1 : ((ny : Int) != (nz : Int)) = true := by rw [bne_iff_ne]; omega
            have m2 : ((ny : Int) == (nz : Int)) = false := by rw [beq_eq_false_iff_ne]; omega
            have m3 : ¬ (ny : Int) = (nz : Int) := by omega
            clear e3 hny hnz
            go_wp2_with fail
            go_ret
            exact ⟨rfl, B6.out⟩
          subst e3
          have HNY := Lib.hid hny
          have HNZ := Lib.hid hnz
          clear hny hnz
          go_wp2_with fail
          obtain ⟨W5, hW5⟩ : ∃ z, W6 = z := ⟨_, rfl⟩
          go_loopw [8] (fun j w8 => ∃ i : Nat, i ≤ ny ∧ j = .int .i64 (i : Int) ∧ Hid (Quiet W6 w8) ∧ Hid (∀ t, t < i → yks[t]? = zks[t]?)) (fun j _ => ny - (intOf j).toNat)
          case atStart => exact ⟨0, Nat.zero_le _, rfl, Quiet.refl _, fun t h => by omega⟩
          case round =>
            clear a0 a1 a2 z0 z1 z2 hW5
            obtain ⟨i, hi, rfl, hq, hall⟩ := hrel
            have i0 : (0 : Int) ≤ (i : Int) := Int.natCast_nonneg _
            by_cases hin : i < ny
            · obtain ⟨yv, hyv⟩ := get_some HNY.out hin
              obtain ⟨zv, hzv⟩ := get_some HNZ.out hin
              obtain ⟨nq, rfl⟩ := hq.out
              obtain ⟨bb, o1, x1, rfl, _, _, rfl, hx1⟩ := HY6.out.at_ hyv
              obtain ⟨bc, o2, x2, rfl, _, _, rfl, hx2⟩ := HZ6.out.at_ hzv
              have k1 : W6.cell? ⟨bb, o1 + i, none⟩ = some (.int .i64 (yv : Int)) := by have := hx1 0 _ rfl; simpa using this
              have k2 : W6.cell? ⟨bc, o2 + i, none⟩ = some (.int .i64 (zv : Int)) := by have := hx2 0 _ rfl; simpa using this
              have a3' : (W6.drewN nq).cell? ⟨b1, 3, none⟩ = some (.slice (some ⟨bb, o1, none⟩) ny yc) := a3
              have z3' : (W6.drewN nq).cell? ⟨b2, 3, none⟩ = some (.slice (some ⟨bc, o2, none⟩) ny zc) := z3
              have dij : decide (i < ny) = true := by simpa using hin
              have dij2 : (i : Int) < (ny : Int) := by omega
              have HYV := Lib.hid hyv
              have HZV := Lib.hid hzv
              clear hx1 hx2 hyv hzv
              by_cases hv : yv = zv
              · subst hv
                go_wp2_with fail
                go_quiet (fail)
                go_wp2_with fail
                go_roundw
                case rel => exact ⟨i + 1, by omega, by go_num, ⟨_, rfl⟩, Lib.hid (fun t ht => by rcases Nat.lt_or_ge t i with h | h; exact hall.out t h; (have : t = i := by omega); subst this; rw [HYV.out, HZV.out])⟩
                case measure => simp [intOf]; omega
              · have hR0 : R = false := HF.out (fun e => hv (by have e4 : yks = zks := congrArg (·.2.2.2) e; have := HYV.out; rw [e4, HZV.out] at this; injection this with this; exact this.symm))
                subst hR0
                have m1 : ((yv : Int) != (zv : Int)) = true := by rw [bne_iff_ne]; omega
                have m2 : ((yv : Int) == (zv : Int)) = false := by rw [beq_eq_false_iff_ne]; omega
                have m3 : ¬ (yv : Int) = (zv : Int) := by omega
                clear hv
                go_wp2_with fail
                go_quiet (fail)
                go_wp2_with fail
                go_ret
                exact ⟨rfl, below_drewN (below_drewN B6.out _) _⟩
            · obtain rfl : i = ny := by omega
              have dij : decide (i < i) = false := by simp
              obtain ⟨nq, rfl⟩ := hq.out
              have a3' : (W6.drewN nq).cell? ⟨b1, 3, none⟩ = some (.slice ya i yc) := a3
              have hall' : yks = zks := by
                apply List.ext_getElem?
                intro t
                rcases Nat.lt_or_ge t i with h | h
                · exact hall.out t h
                · rw [List.getElem?_eq_none (by rw [HNY.out]; exact h), List.getElem?_eq_none (by rw [HNZ.out]; exact h)]
              have HALL := Lib.hid hall'
              clear hin hall hall'
              go_wp2_with fail
              go_roundw
              case rel => exact ⟨k + 1, by omega, by go_num, Lib.hid (below_drewN B6'.out _), Lib.hid (fun t y z ht h1 h2 => by
                rcases Nat.lt_or_ge t k with h | h
                · exact hf.out t y z h h1 h2
                · obtain rfl : t = k := by omega
                  have e1 := Hd.out
                  have e2 := He.out
                  rw [h1] at e1
                  rw [h2] at e2
                  injection e1 with e1
                  injection e2 with e2
                  subst e1 e2
                  unfold ndK
                  simp only
                  rw [HTX.out, HALL.out])⟩
              case measure => simp [intOf]; omega
      · have hkn : k = n := by omega
        subst hkn
        have djk : decide (k < k) = false := by simp
        have hv : R = true := by
          rw [← HR.out, decide_eq_true_iff]
          exact nd_eq_all Hl.out (fun i x y hi h1 h2 => hf.out i x y (by rw [← Hlen.out]; exact hi) h1 h2)
        subst hv
        have B6 : Hid (Below w.heap.size w wr) := Lib.hid (by rw [HG.out]; exact B1.out.trans (hb.out.mono (by have := B1.out.size; have := HG.out; omega)))
        clear hlt
        go_wp2_with fail
        go_ret
        exact ⟨rfl, B6.out⟩
  · have hne : ((l.length : Int) != (m.length : Int)) = true := by rw [bne_iff_ne]; omega
    have hv : R = false := by rw [← HR.out, decide_eq_false_iff_not]; exact fun e => hl (by have := congrArg List.length e; simpa using this)
    subst hv
    clear hl hs ht hw
    go_enter Tryd.func14, Tryd.ntmps14
    go_wp2_with fail
    go_ret
    exact ⟨rfl, BX.out⟩
end Go.Proofs.YtdkoafmgenbkbaaDoor
namespace Go.Proofs.YtdkoafmgenbkbaaDoor
set_option linter.unusedSimpArgs false
set_option linter.unusedVariables false
open Go.RowKit
theorem hasC_place {op : Int} (h : hasN op = 5) : hasC op = ⟨#[112, 108, 97, 99, 101]⟩ := by
  have h1 : op ≠ 1 := by rintro rfl; revert h; decide
  have h8 : op ≠ 8 := by rintro rfl; revert h; decide
  unfold hasC
  rw [if_neg h1, if_neg h8, h]
  rfl
theorem hasC_other {op : Int} (h : hasN op ≠ 5) : ((hasC op).toList == [112, 108, 97, 99, 101]) = false := by
  unfold hasC
  by_cases h1 : op = 1
  · rw [if_pos h1]; kernel_rfl
  · rw [if_neg h1]
    by_cases h8 : op = 8
    · rw [if_pos h8]; kernel_rfl
    · rw [if_neg h8]
      rcases hasN_six op with e | e | e | e | e | e
      all_goals rw [e]
      all_goals first | exact absurd e h | kernel_rfl
theorem thenN_snoc {al bl : List Ins} {k : Nat} {x : Ins} (h : bl[k]? = some x) : thenN al (bl.take (k + 1)) = thenN al (bl.take k) ++ [onI al.length x] := by
  unfold thenN
  rw [List.take_add_one, h, List.map_append, List.append_assoc]
  rfl
set_option maxRecDepth 100000 in
set_option maxHeartbeats 8000000 in
theorem rthen_any {av bv : Value} {al bl : List Ins} (w : World) (ha : SlR w w.heap.size 4 Ins.Is av al) (hb : SlR w w.heap.size 4 Ins.Is bv bl) (hops : ∀ x ∈ bl, (1 ≤ x.op ∧ x.op ≤ 40) ∧ -1000000 ≤ x.arg ∧ x.arg ≤ 1000000) (hla : al.length ≤ 100000) (hlb : bl.length ≤ 100000) :
    Calls Tryd.prog 58 #[av, bv] w fun e w' => ∃ ov, e = .returned ov ∧ Own1 w' w.heap.size 46 4 Ins.Is ov (thenN al bl) ∧ Below w.heap.size w w' := by
  obtain ⟨aa, ac, rfl, _, _⟩ := ha.form
  obtain ⟨ba, bc, rfl, _, _⟩ := hb.form
  obtain ⟨na, hna⟩ : ∃ x, al.length = x := ⟨_, rfl⟩
  obtain ⟨nb, hnb⟩ : ∃ x, bl.length = x := ⟨_, rfl⟩
  rw [hna] at ha hla ⊢
  rw [hnb] at hb hlb ⊢
  obtain ⟨jI, hi, hz, hsz, hby⟩ := info_parts info_Ins
  have I := Lib.hid (And.intro hi (And.intro hz (And.intro hsz hby)))
  have HA := Lib.hid ha
  have HB := Lib.hid hb
  have HNA := Lib.hid hna
  have HNB := Lib.hid hnb
  have HLA := Lib.hid hla
  have HLB := Lib.hid hlb
  have HOP := Lib.hid hops
  clear hi hz hsz hby ha hb hna hnb hops
  go_enter Tryd.func58, Tryd.ntmps58
  have tokA : True := trivial
  go_wp2_with (first
    | (have _t := tokA
       at_builtin
       go_must (refine wpList_append_list rfl (.tmp 11) (.tmp 12) _ (by rfl) w.heap.size w.heap.size 46 jI _ 4 40 Tryd.underlying22 I.out.1 I.out.2.1 I.out.2.2.1 I.out.2.2.2 rfl (by omega) (R := Ins.Is) (l := []) (m := al) (.slice (some ⟨w.heap.size, 0, none⟩) 0 0) (by rfl) (by exact (Own1.empty (w := w) rfl (Nat.le_refl _))) aa na ac (by rfl) (HA.out.below ((Below.refl w.heap.size w).alloc (Nat.le_refl _) _)) na (by simp) Ins.Is.one (by have := HLA.out; have := HNA.out; unfold maxLen; simp <;> omega) (by have := HLA.out; have := HNA.out; simp <;> omega) (by simp) ?_)
       intro a5 c5 w5 hown hgr0
       go_must (have hgr : (w.alloc (.cells #[] 46)).grownBy w5 (some w.heap.size) := ⟨hgr0.os, hgr0.tape, hgr0.output, hgr0.size, hgr0.block⟩)
       go_must (have b5 : Below w.heap.size w w5 := ((Below.refl w.heap.size w).alloc (Nat.le_refl _) (.cells #[] 46)).grown hgr (by rw [World.size_alloc]; omega) (fun b hb => by injection hb with hb; omega))
       have HO := Lib.hid hown
       have HBL := Lib.hid b5
       clear tokA _t hown hgr hgr0 b5)
    | fail)
  have HT0 : Hid (thenN al (bl.take 0) = al) := Lib.hid (by simp [thenN])
  have lw5 := HBL.out.size
  go_loopw [6, 7] (fun v6 v7 wr => ∃ k : Nat, k ≤ nb ∧ v7 = .int .i64 (k : Int) ∧ Hid (Own1 wr w.heap.size 46 4 Ins.Is v6 (thenN al (bl.take k)) ∧ Below w.heap.size w wr)) (fun _ v7 _ => nb - (intOf v7).toNat)
  case atStart => exact ⟨0, Nat.zero_le _, rfl, Lib.hid ⟨by rw [HT0.out]; exact HO.out, HBL.out⟩⟩
  case round =>
    obtain ⟨k, hk, rfl, hkr⟩ := hrel
    obtain ⟨o, ho⟩ : ∃ z, thenN al (bl.take k) = z := ⟨_, rfl⟩
    rw [ho] at hkr
    obtain ⟨no, hno⟩ : ∃ z, o.length = z := ⟨_, rfl⟩
    have hnk : no = na + k := by rw [← hno, ← ho, thenN_len, HNA.out, List.length_take, HNB.out]; omega
    have HNK := Lib.hid hnk
    clear hnk
    obtain ⟨oa, oc, rfl⟩ := hkr.out.1.form
    rw [hno] at hkr ⊢
    by_cases hlt : k < nb
    · obtain ⟨x, hx⟩ := get_some HNB.out hlt
      obtain ⟨b, off, xc, rfl, hbB, hxl, ⟨rfl, hok⟩, hxc⟩ := (HB.out.below hkr.out.2).at_ hx
      have x0 := hxc 0 _ rfl
      have x1 := hxc 1 _ rfl
      have x2 := hxc 2 _ rfl
      have x3 := hxc 3 _ rfl
      simp only [Nat.add_zero] at x0
      have hop := HOP.out x (List.mem_iff_getElem?.2 ⟨k, hx⟩)
      have HTk : Hid (thenN al (bl.take (k + 1)) = o ++ [onI na x]) := Lib.hid (by rw [thenN_snoc hx, ho, HNA.out])
      have k0 : (0 : Int) ≤ (k : Int) := Int.natCast_nonneg _
      have k1 : (k : Int) < (nb : Int) := by omega
      have HX := Lib.hid (And.intro hop hok)
      have OW := Lib.hid hkr.out.1
      have BL := Lib.hid hkr.out.2
      have HNO := Lib.hid hno
      have WD := Lib.hid (word_any x.op)
      have HA5 := Lib.hid (has_any x.op hop.1.1 hop.1.2)
      have wr1 : IntKind.i64.wrap (x.arg + (na : Int)) = x.arg + (na : Int) := by rw [IntKind.wrap_i64]; omega
      clear hx hxc hxl hop hok hkr ho hno
      go_upto_region 7 with fail
      have BX : Hid (Blk (wr.alloc (.cells #[.int .i64 x.op, .int .i64 x.arg, .int .i64 x.int, .string x.text] 46)) wr.heap.size 46 #[.int .i64 x.op, .int .i64 x.arg, .int .i64 x.int, .string x.text]) := Lib.hid (Blk.new _ _ _)
      have e0 : (wr.alloc (.cells #[.int .i64 x.op, .int .i64 x.arg, .int .i64 x.int, .string x.text] 46)).cell? ⟨wr.heap.size, 0, none⟩ = some (.int .i64 x.op) := BX.out.cell rfl
      obtain ⟨y, hy⟩ : ∃ y, onI na x = y := ⟨_, rfl⟩
      rw [hy] at HTk
      obtain ⟨q, hq⟩ : ∃ q, wr.heap.size = q := ⟨_, rfl⟩
      have hql : w.heap.size ≤ q := by rw [← hq]; exact BL.out.size
      have OW1 := Lib.hid (OW.out.alloc (.cells #[.int .i64 x.op, .int .i64 x.arg, .int .i64 x.int, .string x.text] 46))
      have BL1 := Lib.hid (BL.out.alloc BL.out.size (.cells #[.int .i64 x.op, .int .i64 x.arg, .int .i64 x.int, .string x.text] 46))
      have hne : ∀ z, (Value.slice oa no oc).ownBlock = some z → z < q := fun z hz => by rw [← hq]; exact (OW.out.block z hz).2
      have HNE := Lib.hid hne
      generalize hW1 : wr.alloc (.cells #[.int .i64 x.op, .int .i64 x.arg, .int .i64 x.int, .string x.text] 46) = W1 at *
      rw [hq] at BX e0 ⊢
      clear hW1 hq OW BL x0 x1 x2 x3 hne
      go_cut [28] from 24 to 28 (fun v wx => v = .bool (decide (hasN x.op = 5)) ∧ Hid (Own1 wx w.heap.size 46 4 Ins.Is (.slice oa no oc) o ∧ Below w.heap.size w wx ∧ Blk wx q 46 #[.int .i64 x.op, .int .i64 x.arg, .int .i64 x.int, .string x.text]))
      case first =>
        by_cases hp : hasN x.op = 5
        · have HP := Lib.hid (hasC_place hp)
          have hd := decide_eq_true hp
          have HD := Lib.hid hd
          clear hp hd hy
          rw [HP.out] at HA5
          go_wp2_with (first
            | (go_at_call 39; go_must (refine (WD.out _).mono ?_); rintro e w3 ⟨rfl, hb⟩; go_must (have B3 := Lib.hid (BX.out.below hb BX.out.lt)); go_must (have O3 := Lib.hid (OW1.out.below hb (Nat.le_refl _))); go_must (have L3 := Lib.hid (BL1.out.trans (hb.mono BL1.out.size))); clear hb)
            | (go_at_call 40; go_must (refine (HA5.out _).mono ?_); rintro e w4 ⟨rfl, nq, rfl⟩)
            | fail)
          go_meet
          exact ⟨by rw [HD.out], Lib.hid ⟨O3.out.drewN nq, below_drewN L3.out nq, B3.out⟩⟩
        · have HP := hasC_other hp
          have hd := decide_eq_false hp
          have HD := Lib.hid hd
          clear hp hd hy
          obtain ⟨hc, hhc⟩ : ∃ z, hasC x.op = z := ⟨_, rfl⟩
          rw [hhc] at HA5 HP
          clear hhc
          go_wp2_with (first
            | (go_at_call 39; go_must (refine (WD.out _).mono ?_); rintro e w3 ⟨rfl, hb⟩; go_must (have B3 := Lib.hid (BX.out.below hb BX.out.lt)); go_must (have O3 := Lib.hid (OW1.out.below hb (Nat.le_refl _))); go_must (have L3 := Lib.hid (BL1.out.trans (hb.mono BL1.out.size))); clear hb)
            | (go_at_call 40; go_must (refine (HA5.out _).mono ?_); rintro e w4 ⟨rfl, nq, rfl⟩)
            | fail)
          go_meet
          exact ⟨by rw [HD.out]; try rw [HP], Lib.hid ⟨O3.out.drewN nq, below_drewN L3.out nq, B3.out⟩⟩
      case rest =>
        obtain ⟨rfl, hk3⟩ := hcut
        rename World => W3
        have O3 := Lib.hid hk3.out.1
        have L3 := Lib.hid hk3.out.2.1
        have B3 := Lib.hid hk3.out.2.2
        clear hk3 BX e0 OW1 BL1
        by_cases hp : hasN x.op = 5
        · have hyy : y = { x with arg := x.arg + (na : Int) } := by rw [← hy]; unfold onI; rw [if_pos hp]
          have HOKY : Hid y.ok := Lib.hid (by rw [hyy]; exact ⟨HX.out.2.1, wf47 (by have h := HX.out.1.2; show (-9223372036854775808 : Int) ≤ x.arg + (na : Int); omega) (by have h := HX.out.1.2; have h2 := HLA.out; show x.arg + (na : Int) ≤ (9223372036854775807 : Int); omega), HX.out.2.2.2⟩)
          have HY := Lib.hid hyy
          rw [decide_eq_true hp]
          have c31 : W3.cell? ⟨q, 1, none⟩ = some (.int .i64 x.arg) := B3.out.cell rfl
          have z31 := B3.out.frozen 1
          clear hp hyy hy
          go_upto_region 9 with fail
          generalize hw6 : World.setCell _ _ _ = W6
          have O6 : Hid (Own1 W6 w.heap.size 46 4 Ins.Is (.slice oa no oc) o) := Lib.hid (by rw [← hw6]; exact O3.out.setOther (p := ⟨q, 1, none⟩) (fun e => by have := HNE.out q e; omega) _)
          have L6 : Hid (Below w.heap.size w W6) := Lib.hid (by rw [← hw6]; exact L3.out.setCell (p := ⟨q, 1, none⟩) hql _)
          have B6 : Hid (Blk W6 q 46 #[.int .i64 y.op, .int .i64 y.arg, .int .i64 y.int, .string y.text]) := Lib.hid (by rw [← hw6, HY.out]; have := B3.out.set_ 1 (.int .i64 (x.arg + (na : Int))); simpa using this)
          clear hw6 c31 z31 O3 L3 B3
          have lq6 : q < W6.heap.size := B6.out.lt
          have y0 : W6.cell? ⟨q, 0, none⟩ = some (.int .i64 y.op) := B6.out.cell rfl
          have y1 : W6.cell? ⟨q, 1, none⟩ = some (.int .i64 y.arg) := B6.out.cell rfl
          have y2 : W6.cell? ⟨q, 2, none⟩ = some (.int .i64 y.int) := B6.out.cell rfl
          have y3 : W6.cell? ⟨q, 3, none⟩ = some (.string y.text) := B6.out.cell rfl
          go_wp2_with (first
            | (at_builtin
               go_must (refine wpList_append_list rfl (.tmp 34) (.tmp 36) _ (by rfl) w.heap.size (W6.heap.size + 1) 46 jI _ 4 40 Tryd.underlying22 I.out.1 I.out.2.1 I.out.2.2.1 I.out.2.2.2 rfl (by omega) (R := Ins.Is) (l := o) (m := [y]) (.slice oa no oc) (by rfl) (by exact (O6.out.alloc (.cells #[.int .i64 y.op, .int .i64 y.arg, .int .i64 y.int, .string y.text] 46))) (some ⟨W6.heap.size, 0, none⟩) 1 1 (by rfl) ((SlR.new1 (w := W6) (e := 46) (g := W6.heap.size) rfl (x := [.int .i64 y.op, .int .i64 y.arg, .int .i64 y.int, .string y.text]) rfl (R := Ins.Is) (y := y) ⟨rfl, HOKY.out⟩)) (no + 1) (by rw [HNO.out]) Ins.Is.one (by have := HLA.out; have := HLB.out; have := HNO.out; have := HNK.out; unfold maxLen; simp <;> omega) (by have := HLA.out; have := HLB.out; have := HNO.out; have := HNK.out; simp <;> omega) (by have := L6.out.size; simp <;> omega) ?_)
               intro a6 c6 w6 hown hgr
               go_must (have b6 := (L6.out.alloc L6.out.size (.cells #[.int .i64 y.op, .int .i64 y.arg, .int .i64 y.int, .string y.text] 46)).grown hgr (by have := L6.out.size; simp; omega) (fun b hb => (O6.out.block b hb).1))
               have O7 := Lib.hid (And.intro hown b6)
               clear hown hgr b6)
            | fail)
          go_roundw
          case rel => exact ⟨k + 1, by omega, by go_num, Lib.hid ⟨by rw [HTk.out]; exact O7.out.1, O7.out.2⟩⟩
          case measure => simp [intOf]; omega
        · have hyy : y = x := by rw [← hy, onI_none hp]
          have HOKY : Hid y.ok := Lib.hid (by rw [hyy]; exact HX.out.2)
          rw [decide_eq_false hp]
          clear hp hy
          subst hyy
          have O6 := O3
          have L6 := L3
          have B6 := B3
          clear O3 L3 B3
          go_upto_region 9 with fail
          have lq6 : q < W3.heap.size := B6.out.lt
          have y0 : W3.cell? ⟨q, 0, none⟩ = some (.int .i64 y.op) := B6.out.cell rfl
          have y1 : W3.cell? ⟨q, 1, none⟩ = some (.int .i64 y.arg) := B6.out.cell rfl
          have y2 : W3.cell? ⟨q, 2, none⟩ = some (.int .i64 y.int) := B6.out.cell rfl
          have y3 : W3.cell? ⟨q, 3, none⟩ = some (.string y.text) := B6.out.cell rfl
          go_wp2_with (first
            | (at_builtin
               go_must (refine wpList_append_list rfl (.tmp 34) (.tmp 36) _ (by rfl) w.heap.size (W3.heap.size + 1) 46 jI _ 4 40 Tryd.underlying22 I.out.1 I.out.2.1 I.out.2.2.1 I.out.2.2.2 rfl (by omega) (R := Ins.Is) (l := o) (m := [y]) (.slice oa no oc) (by rfl) (by exact (O6.out.alloc (.cells #[.int .i64 y.op, .int .i64 y.arg, .int .i64 y.int, .string y.text] 46))) (some ⟨W3.heap.size, 0, none⟩) 1 1 (by rfl) ((SlR.new1 (w := W3) (e := 46) (g := W3.heap.size) rfl (x := [.int .i64 y.op, .int .i64 y.arg, .int .i64 y.int, .string y.text]) rfl (R := Ins.Is) (y := y) ⟨rfl, HOKY.out⟩)) (no + 1) (by rw [HNO.out]) Ins.Is.one (by have := HLA.out; have := HLB.out; have := HNO.out; have := HNK.out; unfold maxLen; simp <;> omega) (by have := HLA.out; have := HLB.out; have := HNO.out; have := HNK.out; simp <;> omega) (by have := L6.out.size; simp <;> omega) ?_)
               intro a6 c6 w6 hown hgr
               go_must (have b6 := (L6.out.alloc L6.out.size (.cells #[.int .i64 y.op, .int .i64 y.arg, .int .i64 y.int, .string y.text] 46)).grown hgr (by have := L6.out.size; simp; omega) (fun b hb => (O6.out.block b hb).1))
               have O7 := Lib.hid (And.intro hown b6)
               clear hown hgr b6)
            | fail)
          go_roundw
          case rel => exact ⟨k + 1, by omega, by go_num, Lib.hid ⟨by rw [HTk.out]; exact O7.out.1, O7.out.2⟩⟩
          case measure => simp [intOf]; omega
    · have hkn : k = nb := by omega
      subst hkn
      rw [← HNB.out, List.take_length] at ho
      subst ho
      have OW := Lib.hid hkr
      clear hkr hlt
      go_wp2_with fail
      go_ret
      exact ⟨_, rfl, OW.out.1, OW.out.2⟩
end Go.Proofs.YtdkoafmgenbkbaaDoor
namespace Go.Proofs.YtdkoafmgenbkbaaDoor
set_option linter.unusedSimpArgs false
set_option linter.unusedVariables false
open Go.RowKit
theorem CSt.make {W W1 w2 : World} {lv : Value} {xs : Array Value} (h1 : W1 = W.alloc (.cells #[lv] 38)) (hb : Below (W1.alloc (.cells xs 80)).heap.size (W1.alloc (.cells xs 80)) w2) : CSt W w2 lv W.heap.size W1.heap.size xs w2.heap.size := by
  subst h1
  have h2 := hb.size
  simp only [World.size_alloc] at h2 hb
  refine ⟨(((Below.refl W.heap.size W).alloc (Nat.le_refl _) _).alloc (by simp) _).trans (hb.mono (by omega)), (((Blk.new W 38 #[lv]).alloc _).below hb (by omega)), ((Blk.new_ (w := W.alloc (.cells #[lv] 38)) rfl 80 xs).below hb (by simp)), Nat.le_refl _, by simp, by omega, by simp; omega, Nat.le_refl _⟩
theorem Own1.new2 {α : Type} {w : World} {base size g : Nat} {e : TypeId} {R : List Value → α → Prop} {x x' : List Value} {y y' : α} (hg : g = w.heap.size) (hb : base ≤ w.heap.size) (hl : x.length = size) (hl' : x'.length = size) (hR : R x y) (hR' : R x' y') : Own1 (w.alloc (.cells (x ++ x').toArray e)) base e size R (.slice (some ⟨g, 0, none⟩) 2 2) [y, y'] := by
  subst hg
  have h2 : (x ++ x').length = 2 * size := by rw [List.length_append, hl, hl']; omega
  exact ⟨x ++ x', ⟨h2, .inr ⟨w.heap.size, 2, (x ++ x').toArray, rfl, hb, heap_alloc_new w _, Nat.le_refl _, by decide, h2, List.take_of_length_le (Nat.le_of_eq h2)⟩⟩, (FlatR.one hl hR).app (FlatR.one hl' hR')⟩
theorem SlR.new2 {α : Type} {w : World} {size g : Nat} {e : TypeId} {R : List Value → α → Prop} {x x' : List Value} {y y' : α} (hg : g = w.heap.size) (hs : 0 < size) (hl : x.length = size) (hl' : x'.length = size) (hR : R x y) (hR' : R x' y') : SlR (w.alloc (.cells (x ++ x').toArray e)) (w.heap.size + 1) size R (.slice (some ⟨g, 0, none⟩) 2 2) [y, y'] := by
  have h := (Own1.new2 (w := w) (base := 0) (e := e) hg (Nat.zero_le _) hl hl' hR hR').read hs
  rwa [World.size_alloc] at h
theorem Blk.drwN {w : World} {g : Nat} {t : TypeId} {cs : Array Value} (h : Blk w g t cs) (n : Nat) : Blk (w.drewN n) g t cs := h
theorem sameN_rng {k : Nat} (hk : k ≤ 100) : -9223372036854775808 ≤ sameN k ∧ sameN k ≤ 9223372036854775807 := by
  unfold sameN
  by_cases h1 : 3 ≤ k ∧ k ≤ 6
  · rw [if_pos h1]; omega
  · rw [if_neg h1]
    by_cases h2 : 8 ≤ k ∧ k ≤ 26
    · rw [if_pos h2]; omega
    · rw [if_neg h2]; omega
/-- parts that have no text -/
theorem shape_notext {k : Nat} {s : List Nat} {n : Int} {ks : List Tr} (h : Shape k s n ks) (hk : (3 ≤ k ∧ k ≤ 6) ∨ k = 11 ∨ (14 ≤ k ∧ k ≤ 30)) : s = [] := by
  have s1 : ∀ y ∈ signsL, y.2.2 = 7 → 8 ≤ y.2.1 ∧ y.2.1 ≤ 13 := by decide
  have o2 : ∀ y ∈ onesL, y.2.2 = 2 → 31 ≤ y.2.1 ∧ y.2.1 ≤ 34 := by decide
  cases h with
  | int _ => rfl
  | text _ => omega
  | name _ => omega
  | zero _ _ => rfl
  | post h1 h2 h3 _ => have := s1 _ h1 h2; omega
  | parent => rfl
  | not_ => rfl
  | one _ _ => rfl
  | bin _ _ => rfl
  | iff => rfl
  | loop h1 h2 _ => have := o2 _ h1 h2; omega
theorem opR_wordK {k : Nat} (hk : (3 ≤ k ∧ k ≤ 6) ∨ (8 ≤ k ∧ k ≤ 26) ∨ k = 29 ∨ (31 ≤ k ∧ k ≤ 34)) : opR (wordK k) = opK k := by
  have h : wordK k = wordC (opK k) := by unfold wordK; rw [if_neg (by omega)]
  rw [h]
  refine opR_word ?_ ?_
  · unfold opK sameN; split; omega; split; omega; split; omega; omega
  · unfold opK sameN; split; omega; split; omega; split; omega; omega
end Go.Proofs.YtdkoafmgenbkbaaDoor
