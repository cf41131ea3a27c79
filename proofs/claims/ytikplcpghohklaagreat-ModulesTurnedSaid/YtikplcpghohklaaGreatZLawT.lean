/- The same languages in another order go with the same ones: 'topiarylaw24.ModulesTurned' returns true whatever the languages, the name and the numbers; no condition but the reach. -/
import Derived.Test.YtikplcpghohklaaGreatZShare
import Derived.Test.YtikplcpghohklaaGreatModTurn
import Derived.Deep.QuietTactic
import Derived.BigQuiet
import Derived.BigRegion
import Derived.Test.YtikplcpghohklaaGreatOpen
import Derived.Test.YtikplcpghohklaaGreatRows
import Derived.ProofKit
import Derived.OpenShut
import Derived.ShutString
import Derived.ChangeOld
namespace Go.Proofs.YtikplcpghohklaaGreat
set_option linter.unusedSimpArgs false
set_option linter.unusedVariables false
open Go.RowKit

def setAll (w : World) (g : Nat) : Nat → List Value → World
  | _, [] => w
  | o, u :: t => setAll (w.setCell ⟨g, o, none⟩ u) g (o + 1) t
def setL (xs : List Value) : Nat → List Value → List Value
  | _, [] => xs
  | o, u :: t => setL (xs.set o u) (o + 1) t
theorem setL_len : ∀ (x : List Value) (xs : List Value) (o : Nat), (setL xs o x).length = xs.length
  | [], _, _ => rfl
  | u :: t, xs, o => by rw [setL, setL_len t, List.length_set]
theorem setL_get : ∀ (x : List Value) (xs : List Value) (o i : Nat), o + x.length ≤ xs.length → (setL xs o x)[i]? = if o ≤ i ∧ i < o + x.length then x[i - o]? else xs[i]?
  | [], xs, o, i, _ => by rw [setL, if_neg (by simp <;> omega)]
  | u :: t, xs, o, i, h => by
    simp only [List.length_cons] at h ⊢
    rw [setL, setL_get t (xs.set o u) (o + 1) i (by rw [List.length_set]; omega)]
    by_cases h1 : o + 1 ≤ i ∧ i < o + 1 + t.length
    · rw [if_pos h1, if_pos (by omega), show i - o = (i - (o + 1)) + 1 by omega, List.getElem?_cons_succ]
    · rw [if_neg h1]
      by_cases h2 : i = o
      · subst h2
        rw [if_pos (by omega), Nat.sub_self, List.getElem?_set_self (by omega)]
        rfl
      · rw [if_neg (by omega), List.getElem?_set_ne (fun e => h2 e.symm)]
theorem setAll_owns {base g n cap size : Nat} {e : TypeId} : ∀ (x : List Value) (w : World) (o : Nat) (xs : List Value), w.ownsRow base e size (.slice (some ⟨g, 0, none⟩) n cap) n xs → (setAll w g o x).ownsRow base e size (.slice (some ⟨g, 0, none⟩) n cap) n (setL xs o x)
  | [], _, _, _, h => h
  | u :: t, w, o, xs, h => setAll_owns t _ _ _ (h.stored o u).1
theorem setAll_below {B g : Nat} {a : World} (hg : B ≤ g) : ∀ (x : List Value) (w : World) (o : Nat), Below B a w → Below B a (setAll w g o x)
  | [], _, _, h => h
  | u :: t, w, o, h => setAll_below hg t _ _ (h.setCell hg u)
section
variable {α : Type} {w : World} {base size g n c : Nat} {e : TypeId} {R : List Value → α → Prop} {l : List α}
theorem FlatR.put {xs x : List Value} {k : Nat} {y : α} (h : FlatR size R xs l) (hk : k < l.length) (hx : x.length = size) (hR : R x y) : FlatR size R (setL xs (k * size) x) (l.set k y) := by
  have hle : k * size + size ≤ xs.length := by
    rw [h.1]
    calc k * size + size = (k + 1) * size := by rw [Nat.succ_mul]
      _ ≤ l.length * size := Nat.mul_le_mul_right _ hk
  refine ⟨by rw [setL_len, List.length_set]; exact h.1, fun i z hz => ?_⟩
  by_cases e : i = k
  · subst e
    rw [List.getElem?_set_self hk] at hz
    injection hz with hz
    subst hz
    have : ((setL xs (i * size) x).drop (i * size)).take size = x := by
      apply List.ext_getElem?
      intro j
      rw [List.getElem?_take]
      split
      · rw [List.getElem?_drop, setL_get x xs _ _ (by omega), if_pos (by omega)]
        congr 1
        omega
      · rw [List.getElem?_eq_none (by omega)]
    rw [this]
    exact hR
  · rw [List.getElem?_set_ne (fun h => e h.symm)] at hz
    have : ((setL xs (k * size) x).drop (i * size)).take size = (xs.drop (i * size)).take size := by
      apply List.ext_getElem?
      intro j
      rw [List.getElem?_take, List.getElem?_take]
      split
      · rename_i hj
        rw [List.getElem?_drop, List.getElem?_drop, setL_get x xs _ _ (by omega), if_neg]
        rcases Nat.lt_or_gt_of_ne e with hlt | hgt
        · have : (i + 1) * size ≤ k * size := Nat.mul_le_mul_right _ hlt
          rw [Nat.succ_mul] at this
          omega
        · have : (k + 1) * size ≤ i * size := Nat.mul_le_mul_right _ hgt
          rw [Nat.succ_mul] at this
          omega
      · rfl
    rw [this]
    exact h.2 i z hz
theorem Own1.len_ {a : Option Addr} (h : Own1 w base e size R (.slice a n c) l) : n = l.length := by
  obtain ⟨a', c', he⟩ := h.form
  injection he
theorem Own1.put_ {x : List Value} {k : Nat} {y : α} (h : Own1 w base e size R (.slice (some ⟨g, 0, none⟩) n c) l) (hk : k < l.length) (hx : x.length = size) (hR : R x y) : Own1 (setAll w g (k * size) x) base e size R (.slice (some ⟨g, 0, none⟩) n c) (l.set k y) := by
  have hn := h.len_
  obtain ⟨xs, h1, h2⟩ := h
  subst hn
  exact ⟨setL xs (k * size) x, by rw [List.length_set]; exact setAll_owns x w _ xs h1, h2.put hk hx hR⟩
/-- what stands in it, and that it may be written -/
theorem Own1.at0 {a : Option Addr} (h : Own1 w base e size R (.slice a n c) l) (hn : 0 < n) (hs : 0 < size) : ∃ g, a = some ⟨g, 0, none⟩ ∧ base ≤ g ∧ g < w.heap.size ∧ (∀ o, w.frozen? ⟨g, o, none⟩ = false) ∧ ∀ (k : Nat) (y : α), l[k]? = some y → ∃ x : List Value, x.length = size ∧ R x y ∧ ∀ (j : Nat) (u : Value), x[j]? = some u → w.cell? ⟨g, k * size + j, none⟩ = some u := by
  have hr := h.read hs
  have hb := h.block
  have hl := h.len_
  obtain ⟨xs, h1, h2⟩ := h
  obtain ⟨g, rfl⟩ : ∃ g, a = some ⟨g, 0, none⟩ := by
    rcases h1.2 with ⟨h', _⟩ | ⟨g', cap', cur, h', _⟩
    · injection h' with _ e2; omega
    · injection h' with e1; exact ⟨g', e1⟩
  have hg := hb g rfl
  refine ⟨g, rfl, hg.1, hg.2, fun o => ?_, fun k y hy => ?_⟩
  · subst hl; exact h1.frozenAt o
  · obtain ⟨b, off, x, he, _, hx, hR, hc⟩ := hr.at_ hy
    injection he with he
    injection he with e1 e2
    subst e1 e2
    refine ⟨x, hx, hR, fun j u hu => ?_⟩
    have := hc j u hu
    rwa [Nat.zero_add] at this
end
theorem swap_perm {α : Type} {l : List α} {i j : Nat} {a b : α} (hi : l[i]? = some a) (hj : l[j]? = some b) : ((l.set i b).set j a).Perm l := by
  obtain ⟨h1, rfl⟩ := List.getElem?_eq_some_iff.1 hi
  obtain ⟨h2, rfl⟩ := List.getElem?_eq_some_iff.1 hj
  exact List.set_set_perm h1 h2

theorem Language.Is.shape {w : World} {B : Nat} (x : List Value) (d : Language) (h : Language.Is w B x d) : ∃ (e0 : ByteArray) (e1 : Int) (e2 : Option Addr) (en2 ec2 : Nat) (e3 : Option Addr) (en3 ec3 : Nat) (e4 : Option Addr) (en4 ec4 : Nat) (e5 : Option Addr) (en5 ec5 : Nat) (e6 : Option Addr) (en6 ec6 : Nat) (e7 : Option Addr) (en7 ec7 : Nat), x = [.string e0, .int .i64 e1, .slice e2 en2 ec2, .slice e3 en3 ec3, .slice e4 en4 ec4, .slice e5 en5 ec5, .slice e6 en6 ec6, .slice e7 en7 ec7] := by
  obtain ⟨v2, v3, v4, v5, v6, v7, rfl, h2, h3, h4, h5, h6, h7, _⟩ := h
  obtain ⟨_, _, _, rfl⟩ := h2.form'
  obtain ⟨_, _, _, rfl⟩ := h3.form'
  obtain ⟨_, _, _, rfl⟩ := h4.form'
  obtain ⟨_, _, _, rfl⟩ := h5.form'
  obtain ⟨_, _, _, rfl⟩ := h6.form'
  obtain ⟨_, _, _, rfl⟩ := h7.form'
  exact ⟨_, _, _, _, _, _, _, _, _, _, _, _, _, _, _, _, _, _, _, _, rfl⟩
/-- what Close answers, whatever it is -/
def CloseA (ls : List Language) (name : ByteArray) (r : List Int) (x3 : Int) : Prop :=
  (r = [] ∧ 0 < x3 ∧ (faultN ls ≠ none ∨ findN ls name < 0)) ∨ ∃ m : Nat, faultN ls = none ∧ findN ls name = (m : Int) ∧ r = (closeN ls m).map (fun (n : Nat) => (n : Int)) ∧ x3 = 0
theorem close_any {ls : List Language} {v : Value} {name : ByteArray} (hname : name.size ≤ maxLen) (w0 : World) (hs : LsR w0 w0.heap.size v ls) : ∃ (x0 x1 x2 x3 : Int) (r : List Int), (∀ W, Below w0.heap.size w0 W → Calls Tryz.prog 13 #[v, .string name] W fun e w' => ((∃ a c, e = .returned (.tuple #[.slice a r.length c, .agg #[.int .i64 x0, .int .i64 x1, .int .i64 x2, .int .i64 x3]]) ∧ SlR w' w'.heap.size 1 IsInt (.slice a r.length c) r) ∧ Below W.heap.size W w')) ∧ CloseA ls name r x3 := by
  cases hf : faultN ls with
  | some f =>
    have hfe := fault_err hf
    refine ⟨(f.list : Int), (f.at_ : Int), (f.part : Int), (f.err : Int), [], fun W hW => (m_Close name hname W w0 hs hW).mono fun e w' h => ?_, .inl ⟨rfl, by omega, .inl (by rw [hf]; exact fun h => by cases h)⟩⟩
    unfold ClosePost at h
    rw [hf] at h
    exact ⟨⟨none, 0, h.1, SlR.nil_ _ (by unfold maxLen; omega) _⟩, h.2⟩
  | none =>
    by_cases hq : findN ls name < 0
    · refine ⟨-1, 0, 0, 240, [], fun W hW => (m_Close name hname W w0 hs hW).mono fun e w' h => ?_, .inl ⟨rfl, by omega, .inr hq⟩⟩
      unfold ClosePost at h
      rw [hf] at h
      simp only [if_pos hq] at h
      exact ⟨⟨none, 0, h.1, SlR.nil_ _ (by unfold maxLen; omega) _⟩, h.2⟩
    · obtain ⟨m, hm⟩ : ∃ m : Nat, findN ls name = (m : Int) := ⟨(findN ls name).toNat, by omega⟩
      refine ⟨0, 0, 0, 0, (closeN ls m).map (fun (n : Nat) => (n : Int)), fun W hW => (m_Close name hname W w0 hs hW).mono fun e w' h => ?_, .inr ⟨m, hf, hm, rfl, rfl⟩⟩
      unfold ClosePost at h
      rw [hf] at h
      simp only at h
      rw [if_neg (by rw [hm]; omega), hm, Int.toNat_natCast] at h
      obtain ⟨⟨a, n, c, he, hs⟩, hb⟩ := h
      have hn := hs.len
      subst hn
      exact ⟨⟨a, c, he, hs⟩, hb⟩
theorem turned_bad {ls ls' : List Language} {name : ByteArray} (hp : ls.Perm ls') (h : faultN ls ≠ none ∨ findN ls name < 0) : faultN ls' ≠ none ∨ findN ls' name < 0 := by
  rcases h with h | h
  · exact .inl fun h' => h (fault_perm hp.symm h')
  · refine .inr ?_
    have := found_perm hp (s := name)
    omega
theorem tmod_bd (x : Int) {n : Nat} (hn : 0 < n) : -(n : Int) < Int.tmod x n ∧ Int.tmod x n < n := by
  have h1 := Int.tmod_lt_of_pos x (show (0 : Int) < n by omega)
  have h2 := Int.tmod_lt_of_pos (-x) (show (0 : Int) < n by omega)
  rw [Int.neg_tmod] at h2
  omega
set_option maxRecDepth 100000 in
set_option maxHeartbeats 16000000 in
theorem lawT_walk {ls : List Language} {v vt : Value} {ts : List Int} (name : ByteArray) (hname : name.size ≤ maxLen) (w : World) (hs : LsR w w.heap.size v ls) (hup : Fit ls.length 168) (ht : SlR w w.heap.size 1 IsInt vt ts) :
    Calls Tryz.prog 6 #[v, .string name, vt] w fun e w' => e = .returned (.bool true) ∧ Below w.heap.size w w' := by
  obtain ⟨jI, hi, hz, hsz, hby⟩ := info_parts infoZ_Language
  have I := Lib.hid (And.intro hi (And.intro hz (And.intro hsz hby)))
  clear hi hz hsz hby
  have HA := Lib.hid (z_awake w)
  have HG := Lib.hid (fun W (hW : Below w.heap.size w W) => great_any W w hs hW)
  obtain ⟨a, c, rfl⟩ : ∃ a c, v = .slice a ls.length c := by obtain ⟨a, c, h, _⟩ := hs.form; exact ⟨a, c, h⟩
  obtain ⟨ta, tc, rfl⟩ : ∃ a c, vt = .slice a ts.length c := by obtain ⟨a, c, h, _⟩ := ht.form; exact ⟨a, c, h⟩
  have hcap := hs.caps
  have htcap := ht.caps
  obtain ⟨n, hn⟩ : ∃ n, ls.length = n := ⟨_, rfl⟩
  obtain ⟨tn, htn⟩ : ∃ n, ts.length = n := ⟨_, rfl⟩
  obtain ⟨x0, x1, x2, x3, r1, hc1, k1⟩ := close_any (name := name) hname w hs
  have HC1 := Lib.hid hc1
  have K1 := Lib.hid k1
  rw [hn] at hs hcap hup HG HC1 ⊢
  rw [htn] at ht htcap ⊢
  have hn63 : n ≤ 9223372036854775807 := by unfold maxLen at hcap; omega
  have ht63 : tn ≤ 9223372036854775807 := by unfold maxLen at htcap; omega
  have Hs := Lib.hid hs
  have Ht := Lib.hid ht
  have Hcap := Lib.hid hcap
  have Hup := Lib.hid hup
  have Hn := Lib.hid hn
  have Htn := Lib.hid htn
  clear hs ht hcap htcap hup hn htn hc1 k1
  go_enter Tryz.func6, Tryz.ntmps6
  try dsimp only [List.append]
  go_wp2_with (first
    | (go_at_call 8; refine HA.out.mono ?_; rintro e w1 ⟨rfl, hb⟩; have L1 := Lib.hid hb; clear hb)
    | (go_at_call 9; refine (HG.out _ L1.out).mono ?_; rintro e w2 ⟨⟨b, rfl⟩, hb⟩; have L2 : Hid (Below w.heap.size w w2) := Lib.hid (L1.out.trans (hb.mono L1.out.size)); clear hb; cases b)
    | (at_builtin; refine wpList_append_list rfl (.tmp 20) (.tmp 21) _ rfl w2.heap.size w.heap.size 39 jI _ 8 168 Tryz.underlying22 I.out.1 I.out.2.1 I.out.2.2.1 I.out.2.2.2 rfl (by omega) (R := Language.Is w w.heap.size) (l := []) (m := ls) (.slice (some ⟨w2.heap.size, 0, none⟩) 0 0) ?_ (by exact Own1.empty (w := w2) rfl (Nat.le_refl _)) a n c ?_ (by exact Hs.out.below (L2.out.alloc L2.out.size _)) n (by simp) Language.Is.one (by simp; have := Hcap.out; omega) (by simp; have := Hup.out; unfold Fit at this; omega) (by simp) ?_; rfl; rfl; intro oa oc w9 hown hgr; have O9 : Hid (Own1 w9 w2.heap.size 39 8 (Language.Is w w.heap.size) (.slice oa n oc) ls) := Lib.hid (by simpa using hown); have L9 : Hid (Below w.heap.size w w9) := Lib.hid ((L2.out.alloc L2.out.size _).grown hgr (by show w.heap.size ≤ (w2.alloc _).heap.size; have := L2.out.size; simp; omega) (fun g hg => Nat.le_trans L2.out.size (Nat.le_of_eq (Option.some.inj hg)))); clear hown hgr))
  rotate_left
  · go_ret
    exact ⟨rfl, L2.out⟩
  go_loopw [8, 9, 10] (fun i _ _ wr => ∃ (k : Nat) (l' : List Language), k ≤ tn ∧ i = .int .i64 (k : Int) ∧ Hid (l'.Perm ls) ∧ Hid (Own1 wr w2.heap.size 39 8 (Language.Is w w.heap.size) (.slice oa n oc) l') ∧ Hid (Below w.heap.size w wr)) (fun i _ _ _ => tn - (intOf i).toNat)
  case atStart => exact ⟨0, ls, Nat.zero_le _, rfl, Lib.hid (List.Perm.refl _), O9, L9⟩
  case round =>
    obtain ⟨k, l', hk, rfl, hP, hO, hL⟩ := hrel
    have HP := hP
    have HO := hO
    have HL := hL
    clear hP hO hL O9
    by_cases hgo : k < tn ∧ k < 200 ∧ 0 < n
    · obtain ⟨hlt, h200, hn0⟩ := hgo
      obtain ⟨t, htk⟩ := get_some Htn.out hlt
      obtain ⟨tb, to_, tx_, rfl, htb, htl, ⟨rfl, twf⟩, htx⟩ := (Ht.out.below HL.out).at_ htk
      have g0 := htx 0 _ rfl
      simp only [Nat.add_zero, Nat.mul_one] at g0
      obtain ⟨g, rfl, hgb, hgl, hfz, hat⟩ := HO.out.at0 hn0 (by omega)
      have hl' : l'.length = n := by rw [HP.out.length_eq, Hn.out]
      obtain ⟨i1, hi1⟩ : ∃ i1, k % n = i1 := ⟨_, rfl⟩
      have hi1n : i1 < n := by rw [← hi1]; exact Nat.mod_lt _ hn0
      obtain ⟨i2, hi2⟩ : ∃ i2 : Nat, (Int.tmod t n).natAbs = i2 := ⟨_, rfl⟩
      have hbd := tmod_bd t hn0
      have hi2n : i2 < n := by omega
      have e1 : (k : Int) % (n : Int) = (i1 : Int) := by rw [← hi1]; exact (Int.natCast_emod k n).symm
      by_cases hii : i1 = i2
      · subst hii
        obtain ⟨q1, hq1⟩ := get_some hl' hi1n
        obtain ⟨y1, hy1, hR1, hc1⟩ := hat i1 q1 hq1
        obtain ⟨a0, a1, a2, an2, ac2, a3, an3, ac3, a4, an4, ac4, a5, an5, ac5, a6, an6, ac6, a7, an7, ac7, rfl⟩ := Language.Is.shape _ _ hR1
        have HX := Lib.hid hR1
        have HQ := Lib.hid hq1
        have u0 : wr.cell? ⟨g, i1 * 8, none⟩ = some (.string a0) := hc1 0 _ rfl
        have u1 : wr.cell? ⟨g, i1 * 8 + 1, none⟩ = some (.int .i64 a1) := hc1 1 _ rfl
        have u2 : wr.cell? ⟨g, i1 * 8 + 2, none⟩ = some (.slice a2 an2 ac2) := hc1 2 _ rfl
        have u3 : wr.cell? ⟨g, i1 * 8 + 3, none⟩ = some (.slice a3 an3 ac3) := hc1 3 _ rfl
        have u4 : wr.cell? ⟨g, i1 * 8 + 4, none⟩ = some (.slice a4 an4 ac4) := hc1 4 _ rfl
        have u5 : wr.cell? ⟨g, i1 * 8 + 5, none⟩ = some (.slice a5 an5 ac5) := hc1 5 _ rfl
        have u6 : wr.cell? ⟨g, i1 * 8 + 6, none⟩ = some (.slice a6 an6 ac6) := hc1 6 _ rfl
        have u7 : wr.cell? ⟨g, i1 * 8 + 7, none⟩ = some (.slice a7 an7 ac7) := hc1 7 _ rfl
        have dlt : decide ((k : Int) < (tn : Int)) = true := by simp; omega
        have d200 : decide ((k : Int) < 200) = true := by simp; omega
        have dn : decide (0 < (n : Int)) = true := by simp; omega
        have k0 : (0 : Int) ≤ (k : Int) := Int.natCast_nonneg _
        have n1 : (1 : Int) ≤ (n : Int) := by omega
        have i163 : i1 ≤ 9223372036854775807 := by omega
        have i263 : i1 ≤ 9223372036854775807 := by omega
        have E1 := Lib.hid e1
        have E2 := Lib.hid hi2
        have HBD := Lib.hid hbd
        have HT := Lib.hid hl'
        have HTK := Lib.hid htk
        clear hR1 hy1 hq1 hc1 hat htx htl htk e1 hi1 hi2 hbd hl' twf
        go_wp2_with fail
        go_quiet (fail)
        by_cases ht0 : 0 ≤ Int.tmod t n
        rotate_left
        · have e3 : wrap64 (-Int.tmod t n) = (i1 : Int) := by have := HBD.out; have := E2.out; unfold wrap64; omega
          have Ht1 := Lib.hid e3
          clear e3
          go_wp2_with fail
          rw [Ht1.out]
          clear ht0 Ht1
          rw [E1.out]
          generalize hwq : World.drewN wr _ = wq
          have p0 : wq.cell? ⟨g, i1 * 8, none⟩ = some (.string a0) := by rw [← hwq]; exact u0
          have p1 : wq.cell? ⟨g, i1 * 8 + 1, none⟩ = some (.int .i64 a1) := by rw [← hwq]; exact u1
          have p2 : wq.cell? ⟨g, i1 * 8 + 2, none⟩ = some (.slice a2 an2 ac2) := by rw [← hwq]; exact u2
          have p3 : wq.cell? ⟨g, i1 * 8 + 3, none⟩ = some (.slice a3 an3 ac3) := by rw [← hwq]; exact u3
          have p4 : wq.cell? ⟨g, i1 * 8 + 4, none⟩ = some (.slice a4 an4 ac4) := by rw [← hwq]; exact u4
          have p5 : wq.cell? ⟨g, i1 * 8 + 5, none⟩ = some (.slice a5 an5 ac5) := by rw [← hwq]; exact u5
          have p6 : wq.cell? ⟨g, i1 * 8 + 6, none⟩ = some (.slice a6 an6 ac6) := by rw [← hwq]; exact u6
          have p7 : wq.cell? ⟨g, i1 * 8 + 7, none⟩ = some (.slice a7 an7 ac7) := by rw [← hwq]; exact u7
          have fp0 : wq.frozen? ⟨g, i1 * 8, none⟩ = false := by rw [← hwq]; exact hfz _
          have fp1 : wq.frozen? ⟨g, i1 * 8 + 1, none⟩ = false := by rw [← hwq]; exact hfz _
          have fp2 : wq.frozen? ⟨g, i1 * 8 + 2, none⟩ = false := by rw [← hwq]; exact hfz _
          have fp3 : wq.frozen? ⟨g, i1 * 8 + 3, none⟩ = false := by rw [← hwq]; exact hfz _
          have fp4 : wq.frozen? ⟨g, i1 * 8 + 4, none⟩ = false := by rw [← hwq]; exact hfz _
          have fp5 : wq.frozen? ⟨g, i1 * 8 + 5, none⟩ = false := by rw [← hwq]; exact hfz _
          have fp6 : wq.frozen? ⟨g, i1 * 8 + 6, none⟩ = false := by rw [← hwq]; exact hfz _
          have fp7 : wq.frozen? ⟨g, i1 * 8 + 7, none⟩ = false := by rw [← hwq]; exact hfz _
          have QW : Hid (Quiet wr wq) := Lib.hid ⟨_, hwq.symm⟩
          clear hwq hfz u0 u1 u2 u3 u4 u5 u6 u7
          go_region
          generalize hwz : World.drew _ = wz
          obtain ⟨nq, hnq⟩ := QW.out
          have HOq : Own1 wq w2.heap.size 39 8 (Language.Is w w.heap.size) (.slice (some ⟨g, 0, none⟩) n oc) l' := by rw [hnq]; exact HO.out.drewN nq
          have hbq : Below w.heap.size w wq := by rw [hnq]; exact below_drewN HL.out nq
          have hk1 : i1 < l'.length := by rw [HT.out]; exact hi1n
          have hgb : w.heap.size ≤ g := by have := L2.out.size; omega
          have HN : Hid (Own1 wz w2.heap.size 39 8 (Language.Is w w.heap.size) (.slice (some ⟨g, 0, none⟩) n oc) ((l'.set i1 q1).set i1 q1)) := Lib.hid (by have hp := ((HOq.put_ (k := i1) hk1 rfl HX.out).put_ (k := i1) (by rw [List.length_set]; exact hk1) rfl HX.out).drew; simp only [setAll, Nat.add_assoc, Nat.reduceAdd] at hp; rw [← hwz]; exact hp)
          have HBN : Hid (Below w.heap.size w wz) := Lib.hid (by have hp := (setAll_below hgb [.string a0, .int .i64 a1, .slice a2 an2 ac2, .slice a3 an3 ac3, .slice a4 an4 ac4, .slice a5 an5 ac5, .slice a6 an6 ac6, .slice a7 an7 ac7] _ (i1 * 8) (setAll_below hgb [.string a0, .int .i64 a1, .slice a2 an2 ac2, .slice a3 an3 ac3, .slice a4 an4 ac4, .slice a5 an5 ac5, .slice a6 an6 ac6, .slice a7 an7 ac7] _ (i1 * 8) hbq)); simp only [setAll, Nat.add_assoc, Nat.reduceAdd] at hp; rw [← hwz]; exact hp.drew)
          have HPN : Hid ((((l'.set i1 q1).set i1 q1)).Perm ls) := Lib.hid ((swap_perm HQ.out HQ.out).trans HP.out)
          clear hwz HOq hbq hk1 hgb hnq p0 fp0 p1 fp1 p2 fp2 p3 fp3 p4 fp4 p5 fp5 p6 fp6 p7 fp7
          go_wp2_with fail
          go_roundw
          case rel => exact ⟨k + 1, _, by omega, by go_num, HPN, HN, HBN⟩
          case measure => simp [intOf]; omega
        · have e2 : Int.tmod t n = (i1 : Int) := by have := E2.out; omega
          have Ht1 := Lib.hid e2
          clear e2
          go_wp2_with fail
          rw [Ht1.out]
          clear ht0 Ht1
          rw [E1.out]
          generalize hwq : World.drewN wr _ = wq
          have p0 : wq.cell? ⟨g, i1 * 8, none⟩ = some (.string a0) := by rw [← hwq]; exact u0
          have p1 : wq.cell? ⟨g, i1 * 8 + 1, none⟩ = some (.int .i64 a1) := by rw [← hwq]; exact u1
          have p2 : wq.cell? ⟨g, i1 * 8 + 2, none⟩ = some (.slice a2 an2 ac2) := by rw [← hwq]; exact u2
          have p3 : wq.cell? ⟨g, i1 * 8 + 3, none⟩ = some (.slice a3 an3 ac3) := by rw [← hwq]; exact u3
          have p4 : wq.cell? ⟨g, i1 * 8 + 4, none⟩ = some (.slice a4 an4 ac4) := by rw [← hwq]; exact u4
          have p5 : wq.cell? ⟨g, i1 * 8 + 5, none⟩ = some (.slice a5 an5 ac5) := by rw [← hwq]; exact u5
          have p6 : wq.cell? ⟨g, i1 * 8 + 6, none⟩ = some (.slice a6 an6 ac6) := by rw [← hwq]; exact u6
          have p7 : wq.cell? ⟨g, i1 * 8 + 7, none⟩ = some (.slice a7 an7 ac7) := by rw [← hwq]; exact u7
          have fp0 : wq.frozen? ⟨g, i1 * 8, none⟩ = false := by rw [← hwq]; exact hfz _
          have fp1 : wq.frozen? ⟨g, i1 * 8 + 1, none⟩ = false := by rw [← hwq]; exact hfz _
          have fp2 : wq.frozen? ⟨g, i1 * 8 + 2, none⟩ = false := by rw [← hwq]; exact hfz _
          have fp3 : wq.frozen? ⟨g, i1 * 8 + 3, none⟩ = false := by rw [← hwq]; exact hfz _
          have fp4 : wq.frozen? ⟨g, i1 * 8 + 4, none⟩ = false := by rw [← hwq]; exact hfz _
          have fp5 : wq.frozen? ⟨g, i1 * 8 + 5, none⟩ = false := by rw [← hwq]; exact hfz _
          have fp6 : wq.frozen? ⟨g, i1 * 8 + 6, none⟩ = false := by rw [← hwq]; exact hfz _
          have fp7 : wq.frozen? ⟨g, i1 * 8 + 7, none⟩ = false := by rw [← hwq]; exact hfz _
          have QW : Hid (Quiet wr wq) := Lib.hid ⟨_, hwq.symm⟩
          clear hwq hfz u0 u1 u2 u3 u4 u5 u6 u7
          go_region
          generalize hwz : World.drew _ = wz
          obtain ⟨nq, hnq⟩ := QW.out
          have HOq : Own1 wq w2.heap.size 39 8 (Language.Is w w.heap.size) (.slice (some ⟨g, 0, none⟩) n oc) l' := by rw [hnq]; exact HO.out.drewN nq
          have hbq : Below w.heap.size w wq := by rw [hnq]; exact below_drewN HL.out nq
          have hk1 : i1 < l'.length := by rw [HT.out]; exact hi1n
          have hgb : w.heap.size ≤ g := by have := L2.out.size; omega
          have HN : Hid (Own1 wz w2.heap.size 39 8 (Language.Is w w.heap.size) (.slice (some ⟨g, 0, none⟩) n oc) ((l'.set i1 q1).set i1 q1)) := Lib.hid (by have hp := ((HOq.put_ (k := i1) hk1 rfl HX.out).put_ (k := i1) (by rw [List.length_set]; exact hk1) rfl HX.out).drew; simp only [setAll, Nat.add_assoc, Nat.reduceAdd] at hp; rw [← hwz]; exact hp)
          have HBN : Hid (Below w.heap.size w wz) := Lib.hid (by have hp := (setAll_below hgb [.string a0, .int .i64 a1, .slice a2 an2 ac2, .slice a3 an3 ac3, .slice a4 an4 ac4, .slice a5 an5 ac5, .slice a6 an6 ac6, .slice a7 an7 ac7] _ (i1 * 8) (setAll_below hgb [.string a0, .int .i64 a1, .slice a2 an2 ac2, .slice a3 an3 ac3, .slice a4 an4 ac4, .slice a5 an5 ac5, .slice a6 an6 ac6, .slice a7 an7 ac7] _ (i1 * 8) hbq)); simp only [setAll, Nat.add_assoc, Nat.reduceAdd] at hp; rw [← hwz]; exact hp.drew)
          have HPN : Hid ((((l'.set i1 q1).set i1 q1)).Perm ls) := Lib.hid ((swap_perm HQ.out HQ.out).trans HP.out)
          clear hwz HOq hbq hk1 hgb hnq p0 fp0 p1 fp1 p2 fp2 p3 fp3 p4 fp4 p5 fp5 p6 fp6 p7 fp7
          go_wp2_with fail
          go_roundw
          case rel => exact ⟨k + 1, _, by omega, by go_num, HPN, HN, HBN⟩
          case measure => simp [intOf]; omega
      · have hij : ¬ i2 = i1 := fun e => hii e.symm
        obtain ⟨q1, hq1⟩ := get_some hl' hi1n
        obtain ⟨q2, hq2⟩ := get_some hl' hi2n
        obtain ⟨y1, hy1, hR1, hc1⟩ := hat i1 q1 hq1
        obtain ⟨y2, hy2, hR2, hc2⟩ := hat i2 q2 hq2
        obtain ⟨a0, a1, a2, an2, ac2, a3, an3, ac3, a4, an4, ac4, a5, an5, ac5, a6, an6, ac6, a7, an7, ac7, rfl⟩ := Language.Is.shape _ _ hR1
        obtain ⟨b0, b1, b2, bn2, bc2, b3, bn3, bc3, b4, bn4, bc4, b5, bn5, bc5, b6, bn6, bc6, b7, bn7, bc7, rfl⟩ := Language.Is.shape _ _ hR2
        have HX := Lib.hid hR1
        have HQ := Lib.hid hq1
        have HX2 := Lib.hid hR2
        have HQ2 := Lib.hid hq2
        have u0 : wr.cell? ⟨g, i1 * 8, none⟩ = some (.string a0) := hc1 0 _ rfl
        have u1 : wr.cell? ⟨g, i1 * 8 + 1, none⟩ = some (.int .i64 a1) := hc1 1 _ rfl
        have u2 : wr.cell? ⟨g, i1 * 8 + 2, none⟩ = some (.slice a2 an2 ac2) := hc1 2 _ rfl
        have u3 : wr.cell? ⟨g, i1 * 8 + 3, none⟩ = some (.slice a3 an3 ac3) := hc1 3 _ rfl
        have u4 : wr.cell? ⟨g, i1 * 8 + 4, none⟩ = some (.slice a4 an4 ac4) := hc1 4 _ rfl
        have u5 : wr.cell? ⟨g, i1 * 8 + 5, none⟩ = some (.slice a5 an5 ac5) := hc1 5 _ rfl
        have u6 : wr.cell? ⟨g, i1 * 8 + 6, none⟩ = some (.slice a6 an6 ac6) := hc1 6 _ rfl
        have u7 : wr.cell? ⟨g, i1 * 8 + 7, none⟩ = some (.slice a7 an7 ac7) := hc1 7 _ rfl
        have z0 : wr.cell? ⟨g, i2 * 8, none⟩ = some (.string b0) := hc2 0 _ rfl
        have z1 : wr.cell? ⟨g, i2 * 8 + 1, none⟩ = some (.int .i64 b1) := hc2 1 _ rfl
        have z2 : wr.cell? ⟨g, i2 * 8 + 2, none⟩ = some (.slice b2 bn2 bc2) := hc2 2 _ rfl
        have z3 : wr.cell? ⟨g, i2 * 8 + 3, none⟩ = some (.slice b3 bn3 bc3) := hc2 3 _ rfl
        have z4 : wr.cell? ⟨g, i2 * 8 + 4, none⟩ = some (.slice b4 bn4 bc4) := hc2 4 _ rfl
        have z5 : wr.cell? ⟨g, i2 * 8 + 5, none⟩ = some (.slice b5 bn5 bc5) := hc2 5 _ rfl
        have z6 : wr.cell? ⟨g, i2 * 8 + 6, none⟩ = some (.slice b6 bn6 bc6) := hc2 6 _ rfl
        have z7 : wr.cell? ⟨g, i2 * 8 + 7, none⟩ = some (.slice b7 bn7 bc7) := hc2 7 _ rfl
        have dlt : decide ((k : Int) < (tn : Int)) = true := by simp; omega
        have d200 : decide ((k : Int) < 200) = true := by simp; omega
        have dn : decide (0 < (n : Int)) = true := by simp; omega
        have k0 : (0 : Int) ≤ (k : Int) := Int.natCast_nonneg _
        have n1 : (1 : Int) ≤ (n : Int) := by omega
        have i163 : i1 ≤ 9223372036854775807 := by omega
        have i263 : i2 ≤ 9223372036854775807 := by omega
        have E1 := Lib.hid e1
        have E2 := Lib.hid hi2
        have HBD := Lib.hid hbd
        have HT := Lib.hid hl'
        have HTK := Lib.hid htk
        clear hR1 hR2 hy1 hy2 hq1 hq2 hc1 hc2 hat htx htl htk e1 hi1 hi2 hbd hl' twf
        go_wp2_with fail
        go_quiet (fail)
        by_cases ht0 : 0 ≤ Int.tmod t n
        rotate_left
        · have e3 : wrap64 (-Int.tmod t n) = (i2 : Int) := by have := HBD.out; have := E2.out; unfold wrap64; omega
          have Ht1 := Lib.hid e3
          clear e3
          go_wp2_with fail
          rw [Ht1.out]
          clear ht0 Ht1
          rw [E1.out]
          generalize hwq : World.drewN wr _ = wq
          have p0 : wq.cell? ⟨g, i1 * 8, none⟩ = some (.string a0) := by rw [← hwq]; exact u0
          have p1 : wq.cell? ⟨g, i1 * 8 + 1, none⟩ = some (.int .i64 a1) := by rw [← hwq]; exact u1
          have p2 : wq.cell? ⟨g, i1 * 8 + 2, none⟩ = some (.slice a2 an2 ac2) := by rw [← hwq]; exact u2
          have p3 : wq.cell? ⟨g, i1 * 8 + 3, none⟩ = some (.slice a3 an3 ac3) := by rw [← hwq]; exact u3
          have p4 : wq.cell? ⟨g, i1 * 8 + 4, none⟩ = some (.slice a4 an4 ac4) := by rw [← hwq]; exact u4
          have p5 : wq.cell? ⟨g, i1 * 8 + 5, none⟩ = some (.slice a5 an5 ac5) := by rw [← hwq]; exact u5
          have p6 : wq.cell? ⟨g, i1 * 8 + 6, none⟩ = some (.slice a6 an6 ac6) := by rw [← hwq]; exact u6
          have p7 : wq.cell? ⟨g, i1 * 8 + 7, none⟩ = some (.slice a7 an7 ac7) := by rw [← hwq]; exact u7
          have r0 : wq.cell? ⟨g, i2 * 8, none⟩ = some (.string b0) := by rw [← hwq]; exact z0
          have r1 : wq.cell? ⟨g, i2 * 8 + 1, none⟩ = some (.int .i64 b1) := by rw [← hwq]; exact z1
          have r2 : wq.cell? ⟨g, i2 * 8 + 2, none⟩ = some (.slice b2 bn2 bc2) := by rw [← hwq]; exact z2
          have r3 : wq.cell? ⟨g, i2 * 8 + 3, none⟩ = some (.slice b3 bn3 bc3) := by rw [← hwq]; exact z3
          have r4 : wq.cell? ⟨g, i2 * 8 + 4, none⟩ = some (.slice b4 bn4 bc4) := by rw [← hwq]; exact z4
          have r5 : wq.cell? ⟨g, i2 * 8 + 5, none⟩ = some (.slice b5 bn5 bc5) := by rw [← hwq]; exact z5
          have r6 : wq.cell? ⟨g, i2 * 8 + 6, none⟩ = some (.slice b6 bn6 bc6) := by rw [← hwq]; exact z6
          have r7 : wq.cell? ⟨g, i2 * 8 + 7, none⟩ = some (.slice b7 bn7 bc7) := by rw [← hwq]; exact z7
          have fp0 : wq.frozen? ⟨g, i1 * 8, none⟩ = false := by rw [← hwq]; exact hfz _
          have fp1 : wq.frozen? ⟨g, i1 * 8 + 1, none⟩ = false := by rw [← hwq]; exact hfz _
          have fp2 : wq.frozen? ⟨g, i1 * 8 + 2, none⟩ = false := by rw [← hwq]; exact hfz _
          have fp3 : wq.frozen? ⟨g, i1 * 8 + 3, none⟩ = false := by rw [← hwq]; exact hfz _
          have fp4 : wq.frozen? ⟨g, i1 * 8 + 4, none⟩ = false := by rw [← hwq]; exact hfz _
          have fp5 : wq.frozen? ⟨g, i1 * 8 + 5, none⟩ = false := by rw [← hwq]; exact hfz _
          have fp6 : wq.frozen? ⟨g, i1 * 8 + 6, none⟩ = false := by rw [← hwq]; exact hfz _
          have fp7 : wq.frozen? ⟨g, i1 * 8 + 7, none⟩ = false := by rw [← hwq]; exact hfz _
          have fr0 : wq.frozen? ⟨g, i2 * 8, none⟩ = false := by rw [← hwq]; exact hfz _
          have fr1 : wq.frozen? ⟨g, i2 * 8 + 1, none⟩ = false := by rw [← hwq]; exact hfz _
          have fr2 : wq.frozen? ⟨g, i2 * 8 + 2, none⟩ = false := by rw [← hwq]; exact hfz _
          have fr3 : wq.frozen? ⟨g, i2 * 8 + 3, none⟩ = false := by rw [← hwq]; exact hfz _
          have fr4 : wq.frozen? ⟨g, i2 * 8 + 4, none⟩ = false := by rw [← hwq]; exact hfz _
          have fr5 : wq.frozen? ⟨g, i2 * 8 + 5, none⟩ = false := by rw [← hwq]; exact hfz _
          have fr6 : wq.frozen? ⟨g, i2 * 8 + 6, none⟩ = false := by rw [← hwq]; exact hfz _
          have fr7 : wq.frozen? ⟨g, i2 * 8 + 7, none⟩ = false := by rw [← hwq]; exact hfz _
          have QW : Hid (Quiet wr wq) := Lib.hid ⟨_, hwq.symm⟩
          clear hwq hfz u0 z0 u1 z1 u2 z2 u3 z3 u4 z4 u5 z5 u6 z6 u7 z7
          go_region
          generalize hwz : World.drew _ = wz
          obtain ⟨nq, hnq⟩ := QW.out
          have HOq : Own1 wq w2.heap.size 39 8 (Language.Is w w.heap.size) (.slice (some ⟨g, 0, none⟩) n oc) l' := by rw [hnq]; exact HO.out.drewN nq
          have hbq : Below w.heap.size w wq := by rw [hnq]; exact below_drewN HL.out nq
          have hk1 : i1 < l'.length := by rw [HT.out]; exact hi1n
          have hk2 : i2 < l'.length := by rw [HT.out]; exact hi2n
          have hgb : w.heap.size ≤ g := by have := L2.out.size; omega
          have HN : Hid (Own1 wz w2.heap.size 39 8 (Language.Is w w.heap.size) (.slice (some ⟨g, 0, none⟩) n oc) ((l'.set i1 q2).set i2 q1)) := Lib.hid (by have hp := ((HOq.put_ (k := i1) hk1 rfl HX2.out).put_ (k := i2) (by rw [List.length_set]; exact hk2) rfl HX.out).drew; simp only [setAll, Nat.add_assoc, Nat.reduceAdd] at hp; rw [← hwz]; exact hp)
          have HBN : Hid (Below w.heap.size w wz) := Lib.hid (by have hp := (setAll_below hgb [.string a0, .int .i64 a1, .slice a2 an2 ac2, .slice a3 an3 ac3, .slice a4 an4 ac4, .slice a5 an5 ac5, .slice a6 an6 ac6, .slice a7 an7 ac7] _ (i2 * 8) (setAll_below hgb [.string b0, .int .i64 b1, .slice b2 bn2 bc2, .slice b3 bn3 bc3, .slice b4 bn4 bc4, .slice b5 bn5 bc5, .slice b6 bn6 bc6, .slice b7 bn7 bc7] _ (i1 * 8) hbq)); simp only [setAll, Nat.add_assoc, Nat.reduceAdd] at hp; rw [← hwz]; exact hp.drew)
          have HPN : Hid ((((l'.set i1 q2).set i2 q1)).Perm ls) := Lib.hid ((swap_perm HQ.out HQ2.out).trans HP.out)
          clear hwz HOq hbq hk1 hk2 hgb hnq p0 fp0 r0 fr0 p1 fp1 r1 fr1 p2 fp2 r2 fr2 p3 fp3 r3 fr3 p4 fp4 r4 fr4 p5 fp5 r5 fr5 p6 fp6 r6 fr6 p7 fp7 r7 fr7
          go_wp2_with fail
          go_roundw
          case rel => exact ⟨k + 1, _, by omega, by go_num, HPN, HN, HBN⟩
          case measure => simp [intOf]; omega
        · have e2 : Int.tmod t n = (i2 : Int) := by have := E2.out; omega
          have Ht1 := Lib.hid e2
          clear e2
          go_wp2_with fail
          rw [Ht1.out]
          clear ht0 Ht1
          rw [E1.out]
          generalize hwq : World.drewN wr _ = wq
          have p0 : wq.cell? ⟨g, i1 * 8, none⟩ = some (.string a0) := by rw [← hwq]; exact u0
          have p1 : wq.cell? ⟨g, i1 * 8 + 1, none⟩ = some (.int .i64 a1) := by rw [← hwq]; exact u1
          have p2 : wq.cell? ⟨g, i1 * 8 + 2, none⟩ = some (.slice a2 an2 ac2) := by rw [← hwq]; exact u2
          have p3 : wq.cell? ⟨g, i1 * 8 + 3, none⟩ = some (.slice a3 an3 ac3) := by rw [← hwq]; exact u3
          have p4 : wq.cell? ⟨g, i1 * 8 + 4, none⟩ = some (.slice a4 an4 ac4) := by rw [← hwq]; exact u4
          have p5 : wq.cell? ⟨g, i1 * 8 + 5, none⟩ = some (.slice a5 an5 ac5) := by rw [← hwq]; exact u5
          have p6 : wq.cell? ⟨g, i1 * 8 + 6, none⟩ = some (.slice a6 an6 ac6) := by rw [← hwq]; exact u6
          have p7 : wq.cell? ⟨g, i1 * 8 + 7, none⟩ = some (.slice a7 an7 ac7) := by rw [← hwq]; exact u7
          have r0 : wq.cell? ⟨g, i2 * 8, none⟩ = some (.string b0) := by rw [← hwq]; exact z0
          have r1 : wq.cell? ⟨g, i2 * 8 + 1, none⟩ = some (.int .i64 b1) := by rw [← hwq]; exact z1
          have r2 : wq.cell? ⟨g, i2 * 8 + 2, none⟩ = some (.slice b2 bn2 bc2) := by rw [← hwq]; exact z2
          have r3 : wq.cell? ⟨g, i2 * 8 + 3, none⟩ = some (.slice b3 bn3 bc3) := by rw [← hwq]; exact z3
          have r4 : wq.cell? ⟨g, i2 * 8 + 4, none⟩ = some (.slice b4 bn4 bc4) := by rw [← hwq]; exact z4
          have r5 : wq.cell? ⟨g, i2 * 8 + 5, none⟩ = some (.slice b5 bn5 bc5) := by rw [← hwq]; exact z5
          have r6 : wq.cell? ⟨g, i2 * 8 + 6, none⟩ = some (.slice b6 bn6 bc6) := by rw [← hwq]; exact z6
          have r7 : wq.cell? ⟨g, i2 * 8 + 7, none⟩ = some (.slice b7 bn7 bc7) := by rw [← hwq]; exact z7
          have fp0 : wq.frozen? ⟨g, i1 * 8, none⟩ = false := by rw [← hwq]; exact hfz _
          have fp1 : wq.frozen? ⟨g, i1 * 8 + 1, none⟩ = false := by rw [← hwq]; exact hfz _
          have fp2 : wq.frozen? ⟨g, i1 * 8 + 2, none⟩ = false := by rw [← hwq]; exact hfz _
          have fp3 : wq.frozen? ⟨g, i1 * 8 + 3, none⟩ = false := by rw [← hwq]; exact hfz _
          have fp4 : wq.frozen? ⟨g, i1 * 8 + 4, none⟩ = false := by rw [← hwq]; exact hfz _
          have fp5 : wq.frozen? ⟨g, i1 * 8 + 5, none⟩ = false := by rw [← hwq]; exact hfz _
          have fp6 : wq.frozen? ⟨g, i1 * 8 + 6, none⟩ = false := by rw [← hwq]; exact hfz _
          have fp7 : wq.frozen? ⟨g, i1 * 8 + 7, none⟩ = false := by rw [← hwq]; exact hfz _
          have fr0 : wq.frozen? ⟨g, i2 * 8, none⟩ = false := by rw [← hwq]; exact hfz _
          have fr1 : wq.frozen? ⟨g, i2 * 8 + 1, none⟩ = false := by rw [← hwq]; exact hfz _
          have fr2 : wq.frozen? ⟨g, i2 * 8 + 2, none⟩ = false := by rw [← hwq]; exact hfz _
          have fr3 : wq.frozen? ⟨g, i2 * 8 + 3, none⟩ = false := by rw [← hwq]; exact hfz _
          have fr4 : wq.frozen? ⟨g, i2 * 8 + 4, none⟩ = false := by rw [← hwq]; exact hfz _
          have fr5 : wq.frozen? ⟨g, i2 * 8 + 5, none⟩ = false := by rw [← hwq]; exact hfz _
          have fr6 : wq.frozen? ⟨g, i2 * 8 + 6, none⟩ = false := by rw [← hwq]; exact hfz _
          have fr7 : wq.frozen? ⟨g, i2 * 8 + 7, none⟩ = false := by rw [← hwq]; exact hfz _
          have QW : Hid (Quiet wr wq) := Lib.hid ⟨_, hwq.symm⟩
          clear hwq hfz u0 z0 u1 z1 u2 z2 u3 z3 u4 z4 u5 z5 u6 z6 u7 z7
          go_region
          generalize hwz : World.drew _ = wz
          obtain ⟨nq, hnq⟩ := QW.out
          have HOq : Own1 wq w2.heap.size 39 8 (Language.Is w w.heap.size) (.slice (some ⟨g, 0, none⟩) n oc) l' := by rw [hnq]; exact HO.out.drewN nq
          have hbq : Below w.heap.size w wq := by rw [hnq]; exact below_drewN HL.out nq
          have hk1 : i1 < l'.length := by rw [HT.out]; exact hi1n
          have hk2 : i2 < l'.length := by rw [HT.out]; exact hi2n
          have hgb : w.heap.size ≤ g := by have := L2.out.size; omega
          have HN : Hid (Own1 wz w2.heap.size 39 8 (Language.Is w w.heap.size) (.slice (some ⟨g, 0, none⟩) n oc) ((l'.set i1 q2).set i2 q1)) := Lib.hid (by have hp := ((HOq.put_ (k := i1) hk1 rfl HX2.out).put_ (k := i2) (by rw [List.length_set]; exact hk2) rfl HX.out).drew; simp only [setAll, Nat.add_assoc, Nat.reduceAdd] at hp; rw [← hwz]; exact hp)
          have HBN : Hid (Below w.heap.size w wz) := Lib.hid (by have hp := (setAll_below hgb [.string a0, .int .i64 a1, .slice a2 an2 ac2, .slice a3 an3 ac3, .slice a4 an4 ac4, .slice a5 an5 ac5, .slice a6 an6 ac6, .slice a7 an7 ac7] _ (i2 * 8) (setAll_below hgb [.string b0, .int .i64 b1, .slice b2 bn2 bc2, .slice b3 bn3 bc3, .slice b4 bn4 bc4, .slice b5 bn5 bc5, .slice b6 bn6 bc6, .slice b7 bn7 bc7] _ (i1 * 8) hbq)); simp only [setAll, Nat.add_assoc, Nat.reduceAdd] at hp; rw [← hwz]; exact hp.drew)
          have HPN : Hid ((((l'.set i1 q2).set i2 q1)).Perm ls) := Lib.hid ((swap_perm HQ.out HQ2.out).trans HP.out)
          clear hwz HOq hbq hk1 hk2 hgb hnq p0 fp0 r0 fr0 p1 fp1 r1 fr1 p2 fp2 r2 fr2 p3 fp3 r3 fr3 p4 fp4 r4 fr4 p5 fp5 r5 fr5 p6 fp6 r6 fr6 p7 fp7 r7 fr7
          go_wp2_with fail
          go_roundw
          case rel => exact ⟨k + 1, _, by omega, by go_num, HPN, HN, HBN⟩
          case measure => simp [intOf]; omega

    · have hcase : k < tn ∧ k < 200 ∧ n = 0 ∨ k < tn ∧ ¬ k < 200 ∨ ¬ k < tn := by omega
      rcases hcase with ⟨h1, h2, h3⟩ | ⟨h1, h2⟩ | h1
      · have dlt : decide ((k : Int) < (tn : Int)) = true := by simp; omega
        have d200 : decide ((k : Int) < 200) = true := by simp; omega
        have dn : decide (0 < (n : Int)) = false := by simp; omega
        have dn2 : decide (0 < n) = false := by simp; omega
        clear hgo h3
        obtain ⟨wl, hwl⟩ : ∃ z, z = wr := ⟨wr, rfl⟩
        subst hwl
        have LC := HL
        have hOr : LsR wl wl.heap.size (.slice oa n oc) l' := (HO.out.read (by omega)).imp (fun x d r => r.keep (fun _ hp => HL.out.cell hp) HL.out.size)
        obtain ⟨y0, y1, y2, y3, r2, hc2, k2⟩ := close_any (name := name) hname wl hOr
        have HOr := Lib.hid hOr
        have tokA : True := trivial
        rcases K1.out with ⟨rfl, hx, hbad⟩ | ⟨m, hf, hm, rfl, rfl⟩
        · have hb2 := turned_bad HP.out.symm hbad
          rcases k2 with ⟨rfl, hy, _⟩ | ⟨m', hf', hm', _⟩
          · have ne1 : ¬ x3 = 0 := by omega
            have ne2 : (x3 != 0) = true := by simpa using ne1
            have ne3 : ¬ y3 = 0 := by omega
            have ne4 : (y3 != 0) = true := by simpa using ne3
            have HC2 := Lib.hid hc2
            clear hc2 hb2 hbad hOr hx hy
            go_wp2_with (first
                      | (go_at_call 13; have _t := tokA; refine (HC1.out _ LC.out).mono ?_; rintro e w3 ⟨⟨a3, c3, rfl, hS⟩, hb⟩; have L3 : Hid (Below wl.heap.size wl w3) := Lib.hid hb; have S3 := Lib.hid hS; clear hb hS tokA _t)
                      | (go_at_call 13; refine (HC2.out _ (L3.out.alloc L3.out.size _)).mono ?_; rintro e w4 ⟨⟨a4, c4, rfl, hS⟩, hb⟩; have S4 := Lib.hid hS; have hb2 : Below (w3.heap.size + 1) (w3.alloc (.cells #[.int .i64 x0, .int .i64 x1, .int .i64 x2, .int .i64 x3] 28)) w4 := hb.mono (by simp); have B6 : Blk w4 w3.heap.size 28 #[.int .i64 x0, .int .i64 x1, .int .i64 x2, .int .i64 x3] := (Blk.new w3 _ _).below hb2 (by omega); have f3 : w4.cell? ⟨w3.heap.size, 3, none⟩ = some (.int .i64 x3) := B6.cell rfl; have l6 := B6.lt; have B34 : Hid (Below w3.heap.size w3 w4) := Lib.hid (((Below.refl _ _).alloc (Nat.le_refl _) _).trans (hb2.mono (by omega))); clear hb2 B6; clear hb hS))
            go_ret
            exact ⟨rfl, LC.out.trans ((L3.out.trans (B34.out.mono L3.out.size)).mono LC.out.size) |>.alloc (Nat.le_trans LC.out.size (Nat.le_trans L3.out.size B34.out.size)) _⟩
          · exfalso
            rcases hb2 with h | h
            · exact h hf'
            · omega
        · rcases k2 with ⟨rfl, hy, hbad⟩ | ⟨m', hf', hm', rfl, rfl⟩
          · exfalso
            rcases turned_bad HP.out hbad with h | h
            · exact h hf
            · omega
          · have hlen := close_len HP.out.symm hf hm hm'
            have Htn2 := Lib.hid (fun (k : Nat) (hk : k ∈ closeN ls m) => close_turn HP.out.symm hf hm hm' hk)
            have Hmem := Lib.hid (fun (k : Nat) (h : k ∈ closeN ls m) => (show k < ls.length by have := (rowN_good (webN ls)).lt k (mem_close.1 h).1; rw [webN_len] at this; exact this))
            have Hnd := Lib.hid (close_nodup (ls := l') (n := m'))
            have Hnd1 := Lib.hid (close_nodup (ls := ls) (n := m))
            have HC2 := Lib.hid hc2
            obtain ⟨cl, hcl⟩ : ∃ z, closeN ls m = z := ⟨_, rfl⟩
            obtain ⟨cl2, hcl2⟩ : ∃ z, closeN l' m' = z := ⟨_, rfl⟩
            have HC1' := HC1
            rw [hcl] at HC1' Htn2 Hmem hlen Hnd1
            rw [hcl2] at HC2 Htn2 hlen Hnd
            simp only [List.length_map] at HC1' HC2
            obtain ⟨cn, hcn⟩ : ∃ z, cl.length = z := ⟨_, rfl⟩
            rw [hcn] at HC1' hlen
            rw [← hlen] at HC2
            have Hcn := Lib.hid hcn
            have Hlen := Lib.hid hlen
            clear HC1
            have HC1 := HC1'
            have hcn63 : cn ≤ 9223372036854775807 := by
              have := nodup_le ls.length cl Hnd1.out (fun x hx => Hmem.out x hx)
              have := Hn.out
              omega
            have Hf := Lib.hid hf
            have Hm := Lib.hid hm
            clear hc2 hOr hf hm hf' hm' hcl hcl2 hcn hlen HC1'
            go_wp2_with (first
                      | (go_at_call 13; have _t := tokA; refine (HC1.out _ LC.out).mono ?_; rintro e w3 ⟨⟨a3, c3, rfl, hS⟩, hb⟩; have L3 : Hid (Below wl.heap.size wl w3) := Lib.hid hb; have S3 := Lib.hid hS; clear hb hS tokA _t)
                      | (go_at_call 13; refine (HC2.out _ (L3.out.alloc L3.out.size _)).mono ?_; rintro e w4 ⟨⟨a4, c4, rfl, hS⟩, hb⟩; have S4 := Lib.hid hS; have hb2 : Below (w3.heap.size + 1) (w3.alloc (.cells #[.int .i64 x0, .int .i64 x1, .int .i64 x2, .int .i64 0] 28)) w4 := hb.mono (by simp); have B6 : Blk w4 w3.heap.size 28 #[.int .i64 x0, .int .i64 x1, .int .i64 x2, .int .i64 0] := (Blk.new w3 _ _).below hb2 (by omega); have f3 : w4.cell? ⟨w3.heap.size, 3, none⟩ = some (.int .i64 0) := B6.cell rfl; have l6 := B6.lt; have B34 : Hid (Below w3.heap.size w3 w4) := Lib.hid (((Below.refl _ _).alloc (Nat.le_refl _) _).trans (hb2.mono (by omega))); clear hb2 B6; clear hb hS))
            generalize hW5 : World.alloc w4 _ = W5
            have BL5 : Hid (Below wl.heap.size wl W5) := Lib.hid (by rw [← hW5]; exact (L3.out.trans (B34.out.mono L3.out.size)).alloc (Nat.le_trans L3.out.size B34.out.size) _)
            have L5 : Hid (Below w.heap.size w W5) := Lib.hid (LC.out.trans (BL5.out.mono LC.out.size))
            have S5 : Hid (SlR W5 W5.heap.size 1 IsInt (.slice a3 cn c3) (cl.map fun (n : Nat) => (n : Int))) := Lib.hid (by rw [← hW5]; exact (((S3.out.below B34.out).more B34.out.size).below ((Below.refl _ _).alloc (Nat.le_refl _) _)).more (by simp))
            have S6 : Hid (SlR W5 W5.heap.size 1 IsInt (.slice a4 cn c4) (cl2.map fun (n : Nat) => (n : Int))) := Lib.hid (by rw [← hW5]; exact (S4.out.below ((Below.refl _ _).alloc (Nat.le_refl _) _)).more (by simp))
            clear hW5 S3 S4 f3 l6
            have HF := Lib.hid (fun s W (qq : Quiet W5 W) => z_find s W wl HOr.out (BL5.out.trans ((qq.below _).mono BL5.out.size)))
            have HPl := Lib.hid (fun m W (qq : Quiet W5 W) => z_place m W W5 S6.out (qq.below _))
            go_loopw [6, 15] (fun _ j wr => ∃ k : Nat, k ≤ cn ∧ j = .int .i64 (k : Int) ∧ Hid (Quiet W5 wr)) (fun _ j _ => cn - (intOf j).toNat)
            case atStart => exact ⟨0, Nat.zero_le _, rfl, Quiet.refl _⟩
            case round =>
              obtain ⟨kq, hkq, rfl, hq⟩ := hrel
              have Hq := hq
              clear hq
              by_cases hlt2 : kq < cn
              · obtain ⟨kk, hkk⟩ := get_some Hcn.out hlt2
                obtain ⟨l0, k', g1, g2, g3⟩ := Htn2.out kk (List.mem_iff_getElem?.2 ⟨kq, hkk⟩)
                obtain ⟨jt, hjt⟩ := List.mem_iff_getElem?.1 g3
                have hpt : firstAt (fun x : Int => decide (x = (k' : Int))) (cl2.map fun (n : Nat) => (n : Int)) = (jt : Int) := placeN_at Hnd.out hjt
                have HFs := Lib.hid (fun W (h : Quiet W5 W) => HF.out l0.name W h)
                rw [g2] at HFs
                have HPt := Lib.hid (fun W (h : Quiet W5 W) => HPl.out (k' : Int) W h)
                rw [hpt] at HPt
                obtain ⟨b3, off3, x3, rfl, hb3, hxl3, ⟨rfl, _⟩, hx3⟩ := (S5.out.below (Hq.out.below _)).at_ (show (cl.map fun (n : Nat) => (n : Int))[kq]? = some (kk : Int) by rw [List.getElem?_map, hkk]; rfl)
                have u0 := hx3 0 _ rfl
                simp only [Nat.add_zero, Nat.mul_one] at u0
                obtain ⟨b, off, x, rfl, hbB, hxl, ⟨v1, v2, v3, v4, v5, v6, rfl, su, _⟩, hx⟩ := (Hs.out.same_base (L5.out.trans ((Hq.out.below _).mono L5.out.size))).at_ g1
                have v0 : wr.cell? ⟨b, off + kk * 8, none⟩ = some (.string l0.name) := hx 0 _ rfl
                have hkkl := Hmem.out kk (List.mem_iff_getElem?.2 ⟨kq, hkk⟩)
                have hkkn : kk < n := by have := Hn.out; omega
                have hkk63 : kk ≤ 9223372036854775807 := by omega
                have dd1 : decide ((jt : Int) < 0) = false := by simp
                clear hkk g1 g2 g3 hjt hpt hx3 hxl3 hx hxl su hkkl
                go_wp2_with (first
                  | (go_at_call 12; (with_reducible refine (HFs.out _ Hq.out).mono ?_); rintro e w6 ⟨rfl, q6⟩; have Q6 : Hid (Quiet W5 w6) := Lib.hid (Hq.out.trans q6); clear q6)
                  | (go_at_call 11; (with_reducible refine (HPt.out _ Q6.out).mono ?_); rintro e w7 ⟨rfl, q7⟩; have Q7 : Hid (Quiet W5 w7) := Lib.hid (Q6.out.trans q7); clear q7))
                go_roundw
                case rel => exact ⟨kq + 1, by omega, by go_num, Q7⟩
                case measure => simp [intOf]; omega
              · have hge : cn ≤ kq := by omega
                have LE : Hid (Below w.heap.size w wr) := Lib.hid (L5.out.trans ((Hq.out.below _).mono L5.out.size))
                clear hlt2
                go_wp2_with fail
                go_ret
                exact ⟨rfl, LE.out⟩
      · have dlt : decide ((k : Int) < (tn : Int)) = true := by simp; omega
        have d200 : decide ((k : Int) < 200) = false := by simp; omega
        have d2002 : decide (k < 200) = false := by simp; omega
        clear hgo h2
        obtain ⟨wl, hwl⟩ : ∃ z, z = wr := ⟨wr, rfl⟩
        subst hwl
        have LC := HL
        have hOr : LsR wl wl.heap.size (.slice oa n oc) l' := (HO.out.read (by omega)).imp (fun x d r => r.keep (fun _ hp => HL.out.cell hp) HL.out.size)
        obtain ⟨y0, y1, y2, y3, r2, hc2, k2⟩ := close_any (name := name) hname wl hOr
        have HOr := Lib.hid hOr
        have tokA : True := trivial
        rcases K1.out with ⟨rfl, hx, hbad⟩ | ⟨m, hf, hm, rfl, rfl⟩
        · have hb2 := turned_bad HP.out.symm hbad
          rcases k2 with ⟨rfl, hy, _⟩ | ⟨m', hf', hm', _⟩
          · have ne1 : ¬ x3 = 0 := by omega
            have ne2 : (x3 != 0) = true := by simpa using ne1
            have ne3 : ¬ y3 = 0 := by omega
            have ne4 : (y3 != 0) = true := by simpa using ne3
            have HC2 := Lib.hid hc2
            clear hc2 hb2 hbad hOr hx hy
            go_wp2_with (first
                      | (go_at_call 13; have _t := tokA; refine (HC1.out _ LC.out).mono ?_; rintro e w3 ⟨⟨a3, c3, rfl, hS⟩, hb⟩; have L3 : Hid (Below wl.heap.size wl w3) := Lib.hid hb; have S3 := Lib.hid hS; clear hb hS tokA _t)
                      | (go_at_call 13; refine (HC2.out _ (L3.out.alloc L3.out.size _)).mono ?_; rintro e w4 ⟨⟨a4, c4, rfl, hS⟩, hb⟩; have S4 := Lib.hid hS; have hb2 : Below (w3.heap.size + 1) (w3.alloc (.cells #[.int .i64 x0, .int .i64 x1, .int .i64 x2, .int .i64 x3] 28)) w4 := hb.mono (by simp); have B6 : Blk w4 w3.heap.size 28 #[.int .i64 x0, .int .i64 x1, .int .i64 x2, .int .i64 x3] := (Blk.new w3 _ _).below hb2 (by omega); have f3 : w4.cell? ⟨w3.heap.size, 3, none⟩ = some (.int .i64 x3) := B6.cell rfl; have l6 := B6.lt; have B34 : Hid (Below w3.heap.size w3 w4) := Lib.hid (((Below.refl _ _).alloc (Nat.le_refl _) _).trans (hb2.mono (by omega))); clear hb2 B6; clear hb hS))
            go_ret
            exact ⟨rfl, LC.out.trans ((L3.out.trans (B34.out.mono L3.out.size)).mono LC.out.size) |>.alloc (Nat.le_trans LC.out.size (Nat.le_trans L3.out.size B34.out.size)) _⟩
          · exfalso
            rcases hb2 with h | h
            · exact h hf'
            · omega
        · rcases k2 with ⟨rfl, hy, hbad⟩ | ⟨m', hf', hm', rfl, rfl⟩
          · exfalso
            rcases turned_bad HP.out hbad with h | h
            · exact h hf
            · omega
          · have hlen := close_len HP.out.symm hf hm hm'
            have Htn2 := Lib.hid (fun (k : Nat) (hk : k ∈ closeN ls m) => close_turn HP.out.symm hf hm hm' hk)
            have Hmem := Lib.hid (fun (k : Nat) (h : k ∈ closeN ls m) => (show k < ls.length by have := (rowN_good (webN ls)).lt k (mem_close.1 h).1; rw [webN_len] at this; exact this))
            have Hnd := Lib.hid (close_nodup (ls := l') (n := m'))
            have Hnd1 := Lib.hid (close_nodup (ls := ls) (n := m))
            have HC2 := Lib.hid hc2
            obtain ⟨cl, hcl⟩ : ∃ z, closeN ls m = z := ⟨_, rfl⟩
            obtain ⟨cl2, hcl2⟩ : ∃ z, closeN l' m' = z := ⟨_, rfl⟩
            have HC1' := HC1
            rw [hcl] at HC1' Htn2 Hmem hlen Hnd1
            rw [hcl2] at HC2 Htn2 hlen Hnd
            simp only [List.length_map] at HC1' HC2
            obtain ⟨cn, hcn⟩ : ∃ z, cl.length = z := ⟨_, rfl⟩
            rw [hcn] at HC1' hlen
            rw [← hlen] at HC2
            have Hcn := Lib.hid hcn
            have Hlen := Lib.hid hlen
            clear HC1
            have HC1 := HC1'
            have hcn63 : cn ≤ 9223372036854775807 := by
              have := nodup_le ls.length cl Hnd1.out (fun x hx => Hmem.out x hx)
              have := Hn.out
              omega
            have Hf := Lib.hid hf
            have Hm := Lib.hid hm
            clear hc2 hOr hf hm hf' hm' hcl hcl2 hcn hlen HC1'
            go_wp2_with (first
                      | (go_at_call 13; have _t := tokA; refine (HC1.out _ LC.out).mono ?_; rintro e w3 ⟨⟨a3, c3, rfl, hS⟩, hb⟩; have L3 : Hid (Below wl.heap.size wl w3) := Lib.hid hb; have S3 := Lib.hid hS; clear hb hS tokA _t)
                      | (go_at_call 13; refine (HC2.out _ (L3.out.alloc L3.out.size _)).mono ?_; rintro e w4 ⟨⟨a4, c4, rfl, hS⟩, hb⟩; have S4 := Lib.hid hS; have hb2 : Below (w3.heap.size + 1) (w3.alloc (.cells #[.int .i64 x0, .int .i64 x1, .int .i64 x2, .int .i64 0] 28)) w4 := hb.mono (by simp); have B6 : Blk w4 w3.heap.size 28 #[.int .i64 x0, .int .i64 x1, .int .i64 x2, .int .i64 0] := (Blk.new w3 _ _).below hb2 (by omega); have f3 : w4.cell? ⟨w3.heap.size, 3, none⟩ = some (.int .i64 0) := B6.cell rfl; have l6 := B6.lt; have B34 : Hid (Below w3.heap.size w3 w4) := Lib.hid (((Below.refl _ _).alloc (Nat.le_refl _) _).trans (hb2.mono (by omega))); clear hb2 B6; clear hb hS))
            generalize hW5 : World.alloc w4 _ = W5
            have BL5 : Hid (Below wl.heap.size wl W5) := Lib.hid (by rw [← hW5]; exact (L3.out.trans (B34.out.mono L3.out.size)).alloc (Nat.le_trans L3.out.size B34.out.size) _)
            have L5 : Hid (Below w.heap.size w W5) := Lib.hid (LC.out.trans (BL5.out.mono LC.out.size))
            have S5 : Hid (SlR W5 W5.heap.size 1 IsInt (.slice a3 cn c3) (cl.map fun (n : Nat) => (n : Int))) := Lib.hid (by rw [← hW5]; exact (((S3.out.below B34.out).more B34.out.size).below ((Below.refl _ _).alloc (Nat.le_refl _) _)).more (by simp))
            have S6 : Hid (SlR W5 W5.heap.size 1 IsInt (.slice a4 cn c4) (cl2.map fun (n : Nat) => (n : Int))) := Lib.hid (by rw [← hW5]; exact (S4.out.below ((Below.refl _ _).alloc (Nat.le_refl _) _)).more (by simp))
            clear hW5 S3 S4 f3 l6
            have HF := Lib.hid (fun s W (qq : Quiet W5 W) => z_find s W wl HOr.out (BL5.out.trans ((qq.below _).mono BL5.out.size)))
            have HPl := Lib.hid (fun m W (qq : Quiet W5 W) => z_place m W W5 S6.out (qq.below _))
            go_loopw [6, 15] (fun _ j wr => ∃ k : Nat, k ≤ cn ∧ j = .int .i64 (k : Int) ∧ Hid (Quiet W5 wr)) (fun _ j _ => cn - (intOf j).toNat)
            case atStart => exact ⟨0, Nat.zero_le _, rfl, Quiet.refl _⟩
            case round =>
              obtain ⟨kq, hkq, rfl, hq⟩ := hrel
              have Hq := hq
              clear hq
              by_cases hlt2 : kq < cn
              · obtain ⟨kk, hkk⟩ := get_some Hcn.out hlt2
                obtain ⟨l0, k', g1, g2, g3⟩ := Htn2.out kk (List.mem_iff_getElem?.2 ⟨kq, hkk⟩)
                obtain ⟨jt, hjt⟩ := List.mem_iff_getElem?.1 g3
                have hpt : firstAt (fun x : Int => decide (x = (k' : Int))) (cl2.map fun (n : Nat) => (n : Int)) = (jt : Int) := placeN_at Hnd.out hjt
                have HFs := Lib.hid (fun W (h : Quiet W5 W) => HF.out l0.name W h)
                rw [g2] at HFs
                have HPt := Lib.hid (fun W (h : Quiet W5 W) => HPl.out (k' : Int) W h)
                rw [hpt] at HPt
                obtain ⟨b3, off3, x3, rfl, hb3, hxl3, ⟨rfl, _⟩, hx3⟩ := (S5.out.below (Hq.out.below _)).at_ (show (cl.map fun (n : Nat) => (n : Int))[kq]? = some (kk : Int) by rw [List.getElem?_map, hkk]; rfl)
                have u0 := hx3 0 _ rfl
                simp only [Nat.add_zero, Nat.mul_one] at u0
                obtain ⟨b, off, x, rfl, hbB, hxl, ⟨v1, v2, v3, v4, v5, v6, rfl, su, _⟩, hx⟩ := (Hs.out.same_base (L5.out.trans ((Hq.out.below _).mono L5.out.size))).at_ g1
                have v0 : wr.cell? ⟨b, off + kk * 8, none⟩ = some (.string l0.name) := hx 0 _ rfl
                have hkkl := Hmem.out kk (List.mem_iff_getElem?.2 ⟨kq, hkk⟩)
                have hkkn : kk < n := by have := Hn.out; omega
                have hkk63 : kk ≤ 9223372036854775807 := by omega
                have dd1 : decide ((jt : Int) < 0) = false := by simp
                clear hkk g1 g2 g3 hjt hpt hx3 hxl3 hx hxl su hkkl
                go_wp2_with (first
                  | (go_at_call 12; (with_reducible refine (HFs.out _ Hq.out).mono ?_); rintro e w6 ⟨rfl, q6⟩; have Q6 : Hid (Quiet W5 w6) := Lib.hid (Hq.out.trans q6); clear q6)
                  | (go_at_call 11; (with_reducible refine (HPt.out _ Q6.out).mono ?_); rintro e w7 ⟨rfl, q7⟩; have Q7 : Hid (Quiet W5 w7) := Lib.hid (Q6.out.trans q7); clear q7))
                go_roundw
                case rel => exact ⟨kq + 1, by omega, by go_num, Q7⟩
                case measure => simp [intOf]; omega
              · have hge : cn ≤ kq := by omega
                have LE : Hid (Below w.heap.size w wr) := Lib.hid (L5.out.trans ((Hq.out.below _).mono L5.out.size))
                clear hlt2
                go_wp2_with fail
                go_ret
                exact ⟨rfl, LE.out⟩
      · have dlt : decide ((k : Int) < (tn : Int)) = false := by simp; omega
        have dlt2 : decide (k < tn) = false := by simp; omega
        clear hgo h1
        obtain ⟨wl, hwl⟩ : ∃ z, z = wr := ⟨wr, rfl⟩
        subst hwl
        have LC := HL
        have hOr : LsR wl wl.heap.size (.slice oa n oc) l' := (HO.out.read (by omega)).imp (fun x d r => r.keep (fun _ hp => HL.out.cell hp) HL.out.size)
        obtain ⟨y0, y1, y2, y3, r2, hc2, k2⟩ := close_any (name := name) hname wl hOr
        have HOr := Lib.hid hOr
        have tokA : True := trivial
        rcases K1.out with ⟨rfl, hx, hbad⟩ | ⟨m, hf, hm, rfl, rfl⟩
        · have hb2 := turned_bad HP.out.symm hbad
          rcases k2 with ⟨rfl, hy, _⟩ | ⟨m', hf', hm', _⟩
          · have ne1 : ¬ x3 = 0 := by omega
            have ne2 : (x3 != 0) = true := by simpa using ne1
            have ne3 : ¬ y3 = 0 := by omega
            have ne4 : (y3 != 0) = true := by simpa using ne3
            have HC2 := Lib.hid hc2
            clear hc2 hb2 hbad hOr hx hy
            go_wp2_with (first
                      | (go_at_call 13; have _t := tokA; refine (HC1.out _ LC.out).mono ?_; rintro e w3 ⟨⟨a3, c3, rfl, hS⟩, hb⟩; have L3 : Hid (Below wl.heap.size wl w3) := Lib.hid hb; have S3 := Lib.hid hS; clear hb hS tokA _t)
                      | (go_at_call 13; refine (HC2.out _ (L3.out.alloc L3.out.size _)).mono ?_; rintro e w4 ⟨⟨a4, c4, rfl, hS⟩, hb⟩; have S4 := Lib.hid hS; have hb2 : Below (w3.heap.size + 1) (w3.alloc (.cells #[.int .i64 x0, .int .i64 x1, .int .i64 x2, .int .i64 x3] 28)) w4 := hb.mono (by simp); have B6 : Blk w4 w3.heap.size 28 #[.int .i64 x0, .int .i64 x1, .int .i64 x2, .int .i64 x3] := (Blk.new w3 _ _).below hb2 (by omega); have f3 : w4.cell? ⟨w3.heap.size, 3, none⟩ = some (.int .i64 x3) := B6.cell rfl; have l6 := B6.lt; have B34 : Hid (Below w3.heap.size w3 w4) := Lib.hid (((Below.refl _ _).alloc (Nat.le_refl _) _).trans (hb2.mono (by omega))); clear hb2 B6; clear hb hS))
            go_ret
            exact ⟨rfl, LC.out.trans ((L3.out.trans (B34.out.mono L3.out.size)).mono LC.out.size) |>.alloc (Nat.le_trans LC.out.size (Nat.le_trans L3.out.size B34.out.size)) _⟩
          · exfalso
            rcases hb2 with h | h
            · exact h hf'
            · omega
        · rcases k2 with ⟨rfl, hy, hbad⟩ | ⟨m', hf', hm', rfl, rfl⟩
          · exfalso
            rcases turned_bad HP.out hbad with h | h
            · exact h hf
            · omega
          · have hlen := close_len HP.out.symm hf hm hm'
            have Htn2 := Lib.hid (fun (k : Nat) (hk : k ∈ closeN ls m) => close_turn HP.out.symm hf hm hm' hk)
            have Hmem := Lib.hid (fun (k : Nat) (h : k ∈ closeN ls m) => (show k < ls.length by have := (rowN_good (webN ls)).lt k (mem_close.1 h).1; rw [webN_len] at this; exact this))
            have Hnd := Lib.hid (close_nodup (ls := l') (n := m'))
            have Hnd1 := Lib.hid (close_nodup (ls := ls) (n := m))
            have HC2 := Lib.hid hc2
            obtain ⟨cl, hcl⟩ : ∃ z, closeN ls m = z := ⟨_, rfl⟩
            obtain ⟨cl2, hcl2⟩ : ∃ z, closeN l' m' = z := ⟨_, rfl⟩
            have HC1' := HC1
            rw [hcl] at HC1' Htn2 Hmem hlen Hnd1
            rw [hcl2] at HC2 Htn2 hlen Hnd
            simp only [List.length_map] at HC1' HC2
            obtain ⟨cn, hcn⟩ : ∃ z, cl.length = z := ⟨_, rfl⟩
            rw [hcn] at HC1' hlen
            rw [← hlen] at HC2
            have Hcn := Lib.hid hcn
            have Hlen := Lib.hid hlen
            clear HC1
            have HC1 := HC1'
            have hcn63 : cn ≤ 9223372036854775807 := by
              have := nodup_le ls.length cl Hnd1.out (fun x hx => Hmem.out x hx)
              have := Hn.out
              omega
            have Hf := Lib.hid hf
            have Hm := Lib.hid hm
            clear hc2 hOr hf hm hf' hm' hcl hcl2 hcn hlen HC1'
            go_wp2_with (first
                      | (go_at_call 13; have _t := tokA; refine (HC1.out _ LC.out).mono ?_; rintro e w3 ⟨⟨a3, c3, rfl, hS⟩, hb⟩; have L3 : Hid (Below wl.heap.size wl w3) := Lib.hid hb; have S3 := Lib.hid hS; clear hb hS tokA _t)
                      | (go_at_call 13; refine (HC2.out _ (L3.out.alloc L3.out.size _)).mono ?_; rintro e w4 ⟨⟨a4, c4, rfl, hS⟩, hb⟩; have S4 := Lib.hid hS; have hb2 : Below (w3.heap.size + 1) (w3.alloc (.cells #[.int .i64 x0, .int .i64 x1, .int .i64 x2, .int .i64 0] 28)) w4 := hb.mono (by simp); have B6 : Blk w4 w3.heap.size 28 #[.int .i64 x0, .int .i64 x1, .int .i64 x2, .int .i64 0] := (Blk.new w3 _ _).below hb2 (by omega); have f3 : w4.cell? ⟨w3.heap.size, 3, none⟩ = some (.int .i64 0) := B6.cell rfl; have l6 := B6.lt; have B34 : Hid (Below w3.heap.size w3 w4) := Lib.hid (((Below.refl _ _).alloc (Nat.le_refl _) _).trans (hb2.mono (by omega))); clear hb2 B6; clear hb hS))
            generalize hW5 : World.alloc w4 _ = W5
            have BL5 : Hid (Below wl.heap.size wl W5) := Lib.hid (by rw [← hW5]; exact (L3.out.trans (B34.out.mono L3.out.size)).alloc (Nat.le_trans L3.out.size B34.out.size) _)
            have L5 : Hid (Below w.heap.size w W5) := Lib.hid (LC.out.trans (BL5.out.mono LC.out.size))
            have S5 : Hid (SlR W5 W5.heap.size 1 IsInt (.slice a3 cn c3) (cl.map fun (n : Nat) => (n : Int))) := Lib.hid (by rw [← hW5]; exact (((S3.out.below B34.out).more B34.out.size).below ((Below.refl _ _).alloc (Nat.le_refl _) _)).more (by simp))
            have S6 : Hid (SlR W5 W5.heap.size 1 IsInt (.slice a4 cn c4) (cl2.map fun (n : Nat) => (n : Int))) := Lib.hid (by rw [← hW5]; exact (S4.out.below ((Below.refl _ _).alloc (Nat.le_refl _) _)).more (by simp))
            clear hW5 S3 S4 f3 l6
            have HF := Lib.hid (fun s W (qq : Quiet W5 W) => z_find s W wl HOr.out (BL5.out.trans ((qq.below _).mono BL5.out.size)))
            have HPl := Lib.hid (fun m W (qq : Quiet W5 W) => z_place m W W5 S6.out (qq.below _))
            go_loopw [6, 15] (fun _ j wr => ∃ k : Nat, k ≤ cn ∧ j = .int .i64 (k : Int) ∧ Hid (Quiet W5 wr)) (fun _ j _ => cn - (intOf j).toNat)
            case atStart => exact ⟨0, Nat.zero_le _, rfl, Quiet.refl _⟩
            case round =>
              obtain ⟨kq, hkq, rfl, hq⟩ := hrel
              have Hq := hq
              clear hq
              by_cases hlt2 : kq < cn
              · obtain ⟨kk, hkk⟩ := get_some Hcn.out hlt2
                obtain ⟨l0, k', g1, g2, g3⟩ := Htn2.out kk (List.mem_iff_getElem?.2 ⟨kq, hkk⟩)
                obtain ⟨jt, hjt⟩ := List.mem_iff_getElem?.1 g3
                have hpt : firstAt (fun x : Int => decide (x = (k' : Int))) (cl2.map fun (n : Nat) => (n : Int)) = (jt : Int) := placeN_at Hnd.out hjt
                have HFs := Lib.hid (fun W (h : Quiet W5 W) => HF.out l0.name W h)
                rw [g2] at HFs
                have HPt := Lib.hid (fun W (h : Quiet W5 W) => HPl.out (k' : Int) W h)
                rw [hpt] at HPt
                obtain ⟨b3, off3, x3, rfl, hb3, hxl3, ⟨rfl, _⟩, hx3⟩ := (S5.out.below (Hq.out.below _)).at_ (show (cl.map fun (n : Nat) => (n : Int))[kq]? = some (kk : Int) by rw [List.getElem?_map, hkk]; rfl)
                have u0 := hx3 0 _ rfl
                simp only [Nat.add_zero, Nat.mul_one] at u0
                obtain ⟨b, off, x, rfl, hbB, hxl, ⟨v1, v2, v3, v4, v5, v6, rfl, su, _⟩, hx⟩ := (Hs.out.same_base (L5.out.trans ((Hq.out.below _).mono L5.out.size))).at_ g1
                have v0 : wr.cell? ⟨b, off + kk * 8, none⟩ = some (.string l0.name) := hx 0 _ rfl
                have hkkl := Hmem.out kk (List.mem_iff_getElem?.2 ⟨kq, hkk⟩)
                have hkkn : kk < n := by have := Hn.out; omega
                have hkk63 : kk ≤ 9223372036854775807 := by omega
                have dd1 : decide ((jt : Int) < 0) = false := by simp
                clear hkk g1 g2 g3 hjt hpt hx3 hxl3 hx hxl su hkkl
                go_wp2_with (first
                  | (go_at_call 12; (with_reducible refine (HFs.out _ Hq.out).mono ?_); rintro e w6 ⟨rfl, q6⟩; have Q6 : Hid (Quiet W5 w6) := Lib.hid (Hq.out.trans q6); clear q6)
                  | (go_at_call 11; (with_reducible refine (HPt.out _ Q6.out).mono ?_); rintro e w7 ⟨rfl, q7⟩; have Q7 : Hid (Quiet W5 w7) := Lib.hid (Q6.out.trans q7); clear q7))
                go_roundw
                case rel => exact ⟨kq + 1, by omega, by go_num, Q7⟩
                case measure => simp [intOf]; omega
              · have hge : cn ≤ kq := by omega
                have LE : Hid (Below w.heap.size w wr) := Lib.hid (L5.out.trans ((Hq.out.below _).mono L5.out.size))
                clear hlt2
                go_wp2_with fail
                go_ret
                exact ⟨rfl, LE.out⟩

open Go.ChangeShapes Go.WideShapes Go.ChangeAt

theorem own : ownKnob Tryz.prog.godebug = none := by kernel_rfl
theorem laidOut : laidOutB Tryz.prog = true := by kernel_rfl

set_option maxRecDepth 100000 in
theorem lifted (os : Os) (started : os.Started) (H : Type) (enc : TypeId × Value → H) :
    ReturnsInHanded {} Tryz.checked os 6 .any (Rows.modulesTurnedSpec.pre6 enc Tryz.prog Tryz.f6 Rows.modulesTurnedRow.domain false) (Rows.modulesTurnedSpec.post enc Tryz.prog Tryz.f6 false true false false) := by
  refine returnsInHanded_of_change_sized (C := Tryz.checked) own started (by kernel_rfl) Tryz.func6
    (ChangeSpec.witness6 (enc := enc) (C := Tryz.checked) false ⟨#[], #[.slice none 0 0, .string ⟨#[]⟩, .slice none 0 0], []⟩ 8 (by kernel_rfl) (by kernel_rfl) (by kernel_rfl) (by kernel_rfl)) ?_
  intro W base args ds gs before hval0 hW hcnd hwt _
  have hval : ∀ (j : Nat) t v, Tryz.f6.params[j]? = some t → args[j]? = some v → Value.okWide Tryz.prog W .any base t v := hval0
  have hW' := hW
  obtain ⟨p, q, hA0, hV, rfl, hfz, hnd⟩ := hW
  have hA : DataW.TrodAll enc Tryz.prog W 0 (fun _ => true) true Tryz.f6.params.toList args.toList ds p := hA0
  rw [Tryz.params6] at hA hval hwt
  obtain ⟨v0, vs0, d0, ds0, p0, q0, hargs, rfl, rfl, h0, r0⟩ := trodAll_cons hA
  obtain ⟨v1, vs1, d1, ds1, p1, q1, rfl, rfl, rfl, h1, r1⟩ := trodAll_cons r0
  obtain ⟨v2, vs2, d2, ds2, p2, q2, rfl, rfl, rfl, h2, r2⟩ := trodAll_cons r1
  obtain ⟨rfl, rfl, rfl⟩ := trodAll_nil r2
  obtain rfl : args = #[v0, v1, v2] := by cases args; simp_all
  obtain ⟨rfl, rfl⟩ := trodVars_none hV
  obtain ⟨sa0, sn0, sc0, rfl⟩ := okWide_slice Tryz.underlying22 (hval 0 22 v0 rfl rfl)
  obtain ⟨s1, rfl⟩ := okWide_string Tryz.underlying9 (hval 1 9 v1 rfl rfl)
  obtain ⟨sa2, sn2, sc2, rfl⟩ := okWide_slice Tryz.underlying25 (hval 2 25 v2 rfl rfl)
  have k0 := h0
  have lt0 : ∀ x ∈ p0, x.block < W.heap.size := by obtain ⟨m, hm⟩ := k0; exact DataW.trod_lt m _ _ _ hm
  have k1 := h1
  have lt1 : ∀ x ∈ p1, x.block < W.heap.size := by obtain ⟨m, hm⟩ := k1; exact DataW.trod_lt m _ _ _ hm
  have k2 := h2
  have lt2 : ∀ x ∈ p2, x.block < W.heap.size := by obtain ⟨m, hm⟩ := k2; exact DataW.trod_lt m _ _ _ hm
  have L0 : Light Tryz.prog 22 d0 := fun n hn => by simpa using List.all_eq_true.1 hwt n (DataW.weights_mem_each (j := 0) rfl rfl n hn)
  obtain ⟨l0, X0, F0⟩ : ∃ l : List Language, SlR W W.heap.size 8 (Language.Is W W.heap.size) (.slice sa0 sn0 sc0) l ∧ Fit l.length 168 := by
    obtain ⟨fuel, hf⟩ := h0
    exact open_SlR_light (Language.Is W W.heap.size) Tryz.underlying22 (size := 8) (bytes := 168) (by kernel_rfl) (by decide) (by kernel_rfl) hf L0 (fun n x y _ h hl => open_Language h hl)
  have B1 : s1.size ≤ maxLen := by
    obtain ⟨fuel, hf⟩ := h1
    obtain ⟨s, e, _, b⟩ := DataW.trod_string Tryz.underlying9 hf
    simp [Value.cells] at e
    subst e
    exact b
  have L2 : Light Tryz.prog 25 d2 := fun n hn => by simpa using List.all_eq_true.1 hwt n (DataW.weights_mem_each (j := 2) rfl rfl n hn)
  obtain ⟨l2, X2, F2⟩ : ∃ l : List Int, SlR W W.heap.size 1 IsInt (.slice sa2 sn2 sc2) l ∧ Fit l.length 8 := by
    obtain ⟨fuel, hf⟩ := h2
    exact open_SlR_light IsInt Tryz.underlying25 (size := 1) (bytes := 8) (by kernel_rfl) (by decide) (by kernel_rfl) hf L2 (fun n x y _ h hl => open_int h)
  clear hA0 hval0
  have hwalk := lawT_walk s1 B1 W X0 F0 X2
  refine hwalk.mono fun e W' ⟨he, bel⟩ => ?_
  subst he
  exact ⟨_, rfl, _, _, _, [], _, [], hW', trodAll_mk1 (shut_bool Tryz.underlying4 _), (trodAll_cons_mk (Below.trod laidOut (by kernel_rfl) (of_decide_eq_true (by kernel_rfl)) k0 bel lt0) (trodAll_cons_mk (Below.trod laidOut (by kernel_rfl) (of_decide_eq_true (by kernel_rfl)) k1 bel lt1) (trodAll_cons_mk (Below.trod laidOut (by kernel_rfl) (of_decide_eq_true (by kernel_rfl)) k2 bel lt2) trodAll_mk0))), rfl, bel.frame _, fun h => by cases h⟩

theorem over : Rows.modulesTurnedRow.holds Tryz.pinned (OpenSpec.ofChange Rows.modulesTurnedSpec) :=
  OpenClaim.holds_of_wide 6 Tryz.f6 rfl rfl rfl rfl rfl rfl rfl ⟨rfl, rfl, rfl, rfl, rfl⟩ rfl rfl rfl rfl rfl (by kernel_rfl) Tryz.func6 (by kernel_rfl)
    (of_decide_eq_true (by kernel_rfl)) (by unfold Func.isWrapper; first | (rw [if_pos (by decide +kernel)]; kernel_rfl) | (rw [if_neg (by decide +kernel)]; exact ⟨rfl, rfl⟩))
    (fun os started H enc _ => lifted os started H enc)

theorem modulesTurned_holds : Rows.ModulesTurnedSaid := over
#print axioms modulesTurned_holds
end Go.Proofs.YtikplcpghohklaaGreat
