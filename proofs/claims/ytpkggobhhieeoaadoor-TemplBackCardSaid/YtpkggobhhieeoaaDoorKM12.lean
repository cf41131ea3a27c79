/- - - - - - -/
import Derived.Test.YtpkggobhhieeoaaDoorKMBuild
import Derived.Test.YtpkggobhhieeoaaDoorKM11
import Derived.Test.YtpkggobhhieeoaaDoorKTpX
import Derived.Test.YtpkggobhhieeoaaDoorKImpS
import Derived.Test.YtpkggobhhieeoaaDoorKM1
import Derived.Test.YtpkggobhhieeoaaDoorKM5
set_option maxRecDepth 100000
set_option maxHeartbeats 32000000
set_option linter.unusedSimpArgs false
set_option linter.unusedVariables false
namespace Go.Proofs.YtpkggobhhieeoaaDoor
open Go.RowKit
theorem index_first (c : UInt8) : ∀ (u : List UInt8), 0 < u.count c → ∃ i : Nat, Lib.indexByte u c = (i : Int) ∧ u[i]? = some c ∧ ∀ j, j < i → u[j]? ≠ some c
  | [], h => by simp at h
  | b :: l, h => by
    unfold Lib.indexByte
    by_cases hb : b = c
    · subst hb
      exact ⟨0, by simp, rfl, fun j hj => by omega⟩
    · have h1 : 0 < l.count c := by
        rw [List.count_cons] at h
        simpa [hb] using h
      obtain ⟨i, hi, h2, h3⟩ := index_first c l h1
      refine ⟨i + 1, ?_, h2, fun j hj => ?_⟩
      · rw [hi]
        have h5 : ((i : Int) == -1) = false := by simp
        have h6 : (b == c) = false := by simpa using hb
        rw [h5, h6]
        simp
      · cases j with
        | zero => simpa using hb
        | succ j => exact h3 j (by omega)
theorem twice_none {c : Nat} : ∀ {l : List Nat}, (∀ x ∈ l, x ≠ c) → twiceN c l = l
  | [], _ => rfl
  | x :: l, h => by
    have h1 := h x (by simp)
    show (if x = c then [x, x] else [x]) ++ twiceN c l = x :: l
    rw [if_neg h1, twice_none (fun y hy => h y (List.mem_cons_of_mem _ hy))]
    rfl
theorem twice_app (c : Nat) (l m : List Nat) : twiceN c (l ++ m) = twiceN c l ++ twiceN c m := by unfold twiceN; rw [List.flatMap_append]
theorem twice_len (c : Nat) : ∀ l : List Nat, (twiceN c l).length ≤ 2 * l.length
  | [] => by simp [twiceN]
  | x :: l => by
    have := twice_len c l
    show ((if x = c then [x, x] else [x]) ++ twiceN c l).length ≤ _
    rw [List.length_append, List.length_cons]
    split <;> simp <;> omega
theorem twice_bytes {c : Nat} {l : List Nat} (h : Bytes l) : Bytes (twiceN c l) := fun x hx => by
  unfold twiceN at hx
  obtain ⟨y, hy, hxy⟩ := List.mem_flatMap.1 hx
  split at hxy <;> simp at hxy <;> exact hxy ▸ h y hy
theorem twice_step {c p i : Nat} {l : List Nat} (h1 : l[p + i]? = some c) (h2 : ∀ j, j < i → l[p + j]? ≠ some c) : twiceN c (l.take (p + i + 1)) = twiceN c (l.take p) ++ (l.take (p + i)).drop p ++ [c, c] := by
  have hlt := (List.getElem?_eq_some_iff.1 h1).1
  have e1 : l.take (p + i + 1) = l.take (p + i) ++ [c] := by rw [List.take_add_one, h1]; rfl
  have e2 : l.take (p + i) = l.take p ++ (l.take (p + i)).drop p := by
    conv => lhs; rw [← List.take_append_drop p (l.take (p + i))]
    rw [List.take_take, Nat.min_eq_left (by omega)]
  have e6 : twiceN c ((l.take (p + i)).drop p) = (l.take (p + i)).drop p := twice_none (fun x hx hxc => by
    obtain ⟨k, hk⟩ := List.mem_iff_getElem?.1 hx
    have hk2 := (List.getElem?_eq_some_iff.1 hk).1
    rw [List.length_drop, List.length_take] at hk2
    rw [List.getElem?_drop, List.getElem?_take_of_lt (by omega)] at hk
    subst hxc
    exact h2 k (by omega) hk)
  have e5 : twiceN c (l.take (p + i)) = twiceN c (l.take p) ++ (l.take (p + i)).drop p := by
    conv => lhs; rw [e2]
    rw [twice_app, e6]
  rw [e1, twice_app, e5]
  have e4 : twiceN c [c] = [c, c] := by simp [twiceN]
  rw [e4]
theorem count_toNat (c : UInt8) : ∀ (u : List UInt8), (u.map UInt8.toNat).count c.toNat = u.count c
  | [] => rfl
  | b :: l => by
    rw [List.map_cons, List.count_cons, List.count_cons, count_toNat c l]
    by_cases h : b = c
    · simp [h]
    · have h2 : b.toNat ≠ c.toNat := fun e => h (UInt8.toNat_inj.1 e)
      simp [h, h2]
theorem index_bs (s : ByteArray) (c : UInt8) (h : 0 < (bs s).count c.toNat) : ∃ i : Nat, Lib.indexByte s.data.toList c = (i : Int) ∧ (bs s)[i]? = some c.toNat ∧ ∀ j, j < i → (bs s)[j]? ≠ some c.toNat := by
  have hm : bs s = s.data.toList.map UInt8.toNat := rfl
  rw [hm, count_toNat] at h
  obtain ⟨i, h1, h2, h3⟩ := index_first c _ h
  refine ⟨i, h1, by rw [hm, List.getElem?_map, h2]; rfl, fun j hj e => ?_⟩
  rw [hm, List.getElem?_map] at e
  obtain ⟨y, hy, hyc⟩ := Option.map_eq_some_iff.1 e
  exact h3 j hj (by rw [hy, UInt8.toNat_inj.1 hyc])
theorem twice_rest {c p : Nat} {l : List Nat} (h : (l.drop p).count c = 0) : twiceN c l = twiceN c (l.take p) ++ l.drop p := by
  conv => lhs; rw [← List.take_append_drop p l]
  have e : twiceN c (l.drop p) = l.drop p := twice_none (fun x hx hxc => by
    subst hxc
    have := List.count_pos_iff.2 hx
    omega)
  rw [twice_app, e]
theorem built_fresh {w : World} {B b : Nat} {p : Value} (h : Lib.BuilderAt 53 5 B b p [] w) (hp : p = .pointer none ∨ p = .pointer (some ⟨b, 0, none⟩)) : BuiltSt w B b [] := by
  obtain ⟨h1, v, h2, h3, _⟩ := h
  exact ⟨h1, p, v, hp, h2, ⟨[], h3, FlatR.nil_⟩⟩
theorem count_drop {u : List Nat} {c : Nat} {p i : Nat} (h1 : (u.drop p)[i]? = some c) (h2 : ∀ j, j < i → (u.drop p)[j]? ≠ some c) : (u.drop p).count c = (u.drop (p + i + 1)).count c + 1 := by
  have hlt := (List.getElem?_eq_some_iff.1 h1).1
  have e : u.drop p = (u.drop p).take i ++ c :: u.drop (p + i + 1) := by
    conv => lhs; rw [← List.take_append_drop i (u.drop p)]
    congr 1
    rw [List.drop_eq_getElem_cons hlt, (List.getElem?_eq_some_iff.1 h1).2, List.drop_drop]
    rfl
  rw [e, List.count_append, List.count_cons_self, List.count_eq_zero_of_not_mem]
  · omega
  · intro hm
    obtain ⟨k, hk⟩ := List.mem_iff_getElem?.1 hm
    have hk2 := (List.getElem?_eq_some_iff.1 hk).1
    rw [List.length_take] at hk2
    rw [List.getElem?_take_of_lt (by omega)] at hk
    exact h2 k (by omega) hk
theorem replace_one (s : ByteArray) (hs : s.size ≤ 1048576) (c : UInt8) (w : World) : Calls Tryd.prog 51 #[.string s, .string ⟨#[c]⟩, .string ⟨#[c, c]⟩, .int .i64 (-1)] w fun e w' => e = .returned (.string (txt (twiceN c.toNat (bs s)))) ∧ Below w.heap.size w w' := by
  obtain ⟨n, hn⟩ : ∃ n, s.size = n := ⟨_, rfl⟩
  have hn' : (s.size : Int) = (n : Int) := by rw [hn]
  have Hn := zH hn
  obtain ⟨K, hK⟩ : ∃ K, s.data.toList.count c = K := ⟨_, rfl⟩
  have hKn : K ≤ n := by rw [← hK, ← hn]; exact List.count_le_length
  have hne : ((⟨#[c]⟩ : ByteArray).toList == (⟨#[c, c]⟩ : ByteArray).toList) = false := by
    rw [ByteArray.toList_eq, ByteArray.toList_eq]; simp
  have hsz1 : ((⟨#[c]⟩ : ByteArray).size : Int) = 1 := rfl
  have hsz2 : ((⟨#[c, c]⟩ : ByteArray).size : Int) = 2 := rfl
  have CN := zH (fun W => (show Calls Tryd.prog 67 #[.string s, .string ⟨#[c]⟩] W fun e w' => e = .returned (.int .i64 (K : Int)) ∧ w' = W by have := Go.Proofs.Tryd.strings_Count_one s c W; rw [show Lib.countByte s.data.toList c = K from hK] at this; exact this))
  have hmap : bs s = s.data.toList.map UInt8.toNat := rfl
  rw [hn] at hs
  by_cases hK0 : K = 0
  · have hv : twiceN c.toNat (bs s) = bs s := twice_none (fun x hx hxc => by
      rw [hmap] at hx
      obtain ⟨y, hy, rfl⟩ := List.mem_map.1 hx
      have : y = c := UInt8.toNat_inj.1 hxc
      subst this
      have := List.count_pos_iff.2 hy
      omega)
    rw [hv, txt_bs]
    subst hK0
    clear hK hmap hn
    go_enter Tryd.func51, Tryd.ntmps51
    go_wp2_with (go_at_call 67; (with_reducible refine (CN.out _).mono ?_); rintro e w' ⟨rfl, h0⟩; have h0 := h0.symm; subst h0)
    go_ret
    exact ⟨rfl, zB⟩
  · have hk0 : ((K : Int) == 0) = false := by simp; omega
    have hkb : (K : Int) ≤ (n : Int) := by omega
    have kk0 : (0 : Int) ≤ (K : Int) := Int.natCast_nonneg _
    have HK := zH hK
    have HMAP := zH hmap
    have S0 : Hid (zH True.intro = zH True.intro) := zH rfl
    have Bw0 : Hid (Below w.heap.size w (w.alloc (.cells #[.pointer none, .slice none 0 0] 53))) := zH (zB.alloc zL _)
    have GRW : Hid (Calls Tryd.prog 68 #[.pointer (some ⟨w.heap.size, 0, none⟩), .int .i64 ((n : Int) + (K : Int))] (w.alloc (.cells #[.pointer none, .slice none 0 0] 53)) fun e w' => e = .returned (.tuple #[]) ∧ BuiltSt w' w.heap.size w.heap.size [] ∧ Below w.heap.size (w.alloc (.cells #[.pointer none, .slice none 0 0] 53)) w') := zH (by
      have h := Go.Proofs.Tryd.Builder_Grow_fresh w.heap.size w.heap.size (n + K) (w.alloc (.cells #[.pointer none, .slice none 0 0] 53)) zL (Blk.new w _ _) (by simp) (by omega)
      rw [show ((n + K : Nat) : Int) = (n : Int) + (K : Int) by omega] at h
      exact h.mono fun e w' ⟨h1, h2, h3⟩ => ⟨h1, built_fresh h2 (.inr rfl), h3⟩)
    clear hK hmap hn S0
    go_enter Tryd.func51, Tryd.ntmps51
    go_wp2_with (first
      | (go_at_call 67; (with_reducible refine (CN.out _).mono ?_); rintro e w' ⟨rfl, h0⟩; have h0 := h0.symm; subst h0)
      | (go_at_call 68; go_must (refine GRW.out.mono ?_); rintro e w1 ⟨rfl, h1, h2⟩; have T1 := zH h1; have B1 := zH (Bw0.out.trans h2); clear h1 h2))
    have HC0 : Hid (((bs s).drop 0).count c.toNat = K) := zH (by rw [List.drop_zero, HMAP.out, count_toNat]; exact HK.out)
    go_loopg [11, 12, 53] K (fun gk v11 _ v53 wr => ∃ p t : Nat, v11 = .int .i64 (p : Int) ∧ v53 = .int .i64 (t : Int) ∧ t + gk = K ∧ p ≤ n ∧ Hid (((bs s).drop p).count c.toNat = gk) ∧ Hid (BuiltSt wr w.heap.size w.heap.size (twiceN c.toNat ((bs s).take p))) ∧ Hid (Below w.heap.size w wr))
    case atStart => exact ⟨0, 0, rfl, rfl, by omega, Nat.zero_le _, HC0, T1, B1⟩
    case round =>
      clear T1 B1 GRW CN Bw0
      obtain ⟨p, t, rfl, rfl, htk, hpn, hcnt, hT, hB⟩ := hrel
      have p0 : (0 : Int) ≤ (p : Int) := Int.natCast_nonneg _
      have p1 : (p : Int) ≤ (n : Int) := by omega
      have pz : (p : Int) ≤ 1048576 := by omega
      have hbz := hB.out.size
      have hlT : (twiceN c.toNat ((bs s).take p)).length ≤ 2097152 := by
        have := twice_len c.toNat ((bs s).take p)
        rw [List.length_take, bs_len] at this
        have h5 := Hn.out
        omega
      have HTK := zH htk
      clear htk
      have hex : bs (s.extract p s.size) = (bs s).drop p := by rw [bs_extract, List.take_of_length_le (by rw [bs_len]; exact Nat.le_refl _)]
      have hexs : (s.extract p s.size).size ≤ 1048576 := by rw [← bs_len, hex, List.length_drop, bs_len, Hn.out]; omega
      by_cases htK : t < K
      · have d1 : decide (t < K) = true := by simpa using htK
        have hg1 : 1 ≤ gk := by have := HTK.out; omega
        obtain ⟨i, hi, hi1, hi2⟩ := index_bs (s.extract p s.size) c (by rw [hex]; have := hcnt.out; omega)
        rw [hex] at hi1 hi2
        have hcd := count_drop hi1 hi2
        have hi1' : (bs s)[p + i]? = some c.toNat := by rw [← hi1, List.getElem?_drop]
        have hi2' : ∀ j, j < i → (bs s)[p + j]? ≠ some c.toNat := fun j hj => by have := hi2 j hj; rwa [List.getElem?_drop] at this
        have hst := twice_step hi1' hi2'
        have hil : p + i < n := by have := (List.getElem?_eq_some_iff.1 hi1').1; rw [bs_len, Hn.out] at this; exact this
        have HST := zH hst
        have HCD : Hid (((bs s).drop (p + i + 1)).count c.toNat = gk - 1) := zH (by have := hcnt.out; omega)
        have IXC := zH (fun W => (show Calls Tryd.prog 69 #[.string (s.extract p s.size), .string ⟨#[c]⟩] W fun e w' => e = .returned (.int .i64 (i : Int)) ∧ w' = W by have := Go.Proofs.Tryd.strings_Index_one (s.extract p s.size) c W; rw [hi] at this; exact this))
        have i0 : (0 : Int) ≤ (i : Int) := Int.natCast_nonneg _
        have i1 : (p : Int) + (i : Int) + 1 ≤ (n : Int) := by omega
        have ewr : (p : Int) + (i : Int) = ((p + i : Nat) : Int) := by omega
        have hx2 : bs (s.extract p (p + i)) = ((bs s).take (p + i)).drop p := by rw [bs_extract]
        have hx2s : (s.extract p (p + i)).size ≤ 1048576 := by rw [← bs_len, hx2, List.length_drop, List.length_take, bs_len, Hn.out]; omega
        have W1 := zH (write_text (s.extract p (p + i)) hT.out (by omega) hbz)
        rw [hx2] at W1
        have HEX := zH hx2s
        have tok1 : True := trivial
        have tok2 : True := trivial
        have hlen2 : (twiceN c.toNat ((bs s).take p) ++ ((bs s).take (p + i)).drop p).length ≤ 4194304 := by
          rw [List.length_append, List.length_drop, List.length_take, bs_len, Hn.out]; omega
        clear hi hi1 hi2 hi1' hi2' hcd hst hex hexs hx2 hx2s hlT ewr
        go_wp2_with (first
          | (go_at_call 69; (with_reducible refine (IXC.out _).mono ?_); rintro e w' ⟨rfl, h0⟩; have h0 := h0.symm; subst h0)
          | (have _t := tok1; go_at_call 22; (with_reducible refine W1.out.mono ?_); clear tok1 _t; rintro e w2 ⟨rfl, h1, h2, _⟩; have T2 := zH h1; have B2 := zH (hB.out.trans h2); have hz2 : w.heap.size ≤ w2.heap.size := B2.out.size; have W2 := zH (write_text ⟨#[c, c]⟩ h1 (by rw [show (⟨#[c, c]⟩ : ByteArray).size = 2 from rfl]; omega) hz2); clear h1 h2)
          | (go_at_call 22; (with_reducible refine W2.out.mono ?_); rintro e w3 ⟨rfl, h1, h2, _⟩; have T3 := zH h1; have B3 := zH (B2.out.trans h2); clear h1 h2))
        go_roundg (gk - 1)
        case measure => omega
        case rel => exact ⟨p + i + 1, t + 1, by go_num, by go_num, by have := HTK.out; omega, by omega, HCD, zH (by rw [HST.out]; exact T3.out), B3⟩
      · have d1 : decide (t < K) = false := by simpa using htK
        have hg0 : gk = 0 := by have := HTK.out; omega
        have hrest := twice_rest (c := c.toNat) (p := p) (l := bs s) (by rw [hcnt.out]; exact hg0)
        have HRS := zH hrest
        have W1 := zH (write_text (s.extract p s.size) hT.out (by omega) hbz)
        rw [hex] at W1
        clear hrest hex hexs hlT
        go_wp2_with (first
          | (go_at_call 22; (with_reducible refine W1.out.mono ?_); rintro e w2 ⟨rfl, h1, h2, _⟩; have T2 := zH h1; have B2 := zH (hB.out.trans h2); have hz2 : w.heap.size ≤ w2.heap.size := B2.out.size; clear h1 h2)
          | (go_at_call 25; (refine (built_text T2.out hz2).mono ?_); rintro e w3 ⟨rfl, h1⟩; have B3 := zH (B2.out.trans h1); clear h1))
        go_ret
        exact ⟨by rw [HRS.out]; rfl, B3.out⟩
theorem replace_all (s : ByteArray) (hs : s.size ≤ 1048576) (c : UInt8) (w : World) : Calls Tryd.prog 37 #[.string s, .string ⟨#[c]⟩, .string ⟨#[c, c]⟩] w fun e w' => e = .returned (.string (txt (twiceN c.toNat (bs s)))) ∧ Below w.heap.size w w' := by
  have H := zH (replace_one s hs c w)
  go_enter Tryd.func37, Tryd.ntmps37
  go_wp2_with (go_at_call 51; (with_reducible refine H.out.mono ?_); rintro e w1 ⟨rfl, h1⟩)
  go_ret
  exact ⟨rfl, h1⟩
end Go.Proofs.YtpkggobhhieeoaaDoor
namespace Go.Proofs.YtpkggobhhieeoaaDoor
open Go.RowKit
theorem shown2 (t m : ByteArray) (ht : t.size ≤ 4096) (hm : m.size ≤ 4096) (w : World)  : Calls Tryd.prog 23 #[.agg #[.int .i64 2, .string t, .string m]] w fun e w' => e = .returned (.string (txt ([123, 46] ++ bs t ++ [125]))) ∧ Below w.heap.size w w' := by
  have B1 : Hid (Below w.heap.size w (w.alloc (.cells #[.int .i64 2, .string t, .string m] 30))) := zH (zB.alloc zL _)
  have K1 : Hid (Blk (w.alloc (.cells #[.int .i64 2, .string t, .string m] 30)) w.heap.size 30 #[.int .i64 2, .string t, .string m]) := zH (Blk.new _ _ _)
  have zt := ht
  have zm := hm
  have y0 : (⟨#[123, 46]⟩ : ByteArray).size = 2 := rfl
  have z0 : (⟨#[123, 46]⟩ : ByteArray).size ≤ 10 := by omega
  have q1 : ¬ 9223372036854775807 < ((⟨#[123, 46]⟩ : ByteArray)).size + (t).size := by omega
  have z1 : (((⟨#[123, 46]⟩ : ByteArray) ++ t)).size ≤ 30000 := by rw [ByteArray.size_append]; omega
  have y2 : (⟨#[125]⟩ : ByteArray).size = 1 := rfl
  have q2 : ¬ 9223372036854775807 < (((⟨#[123, 46]⟩ : ByteArray) ++ t)).size + ((⟨#[125]⟩ : ByteArray)).size := by omega
  have z2 : ((((⟨#[123, 46]⟩ : ByteArray) ++ t) ++ (⟨#[125]⟩ : ByteArray))).size ≤ 60000 := by rw [ByteArray.size_append]; omega
  clear z0
  clear z1
  clear z2
  clear y0
  clear y2
  clear zt zm
  go_enter Tryd.func23, Tryd.ntmps23
  go_upto_region 1 with fail
  generalize World.alloc _ _ = w1 at *
  obtain ⟨c0, z0, c1, z1, c2, z2, l0⟩ := Blk.f3 K1.out
  go_wp2_with fail
  go_ret
  exact ⟨by rw [← txt_bs (_ ++ _)]; simp only [bs_append]; rfl, B1.out⟩
theorem shown3 (t m : ByteArray) (ht : t.size ≤ 4096) (hm : m.size ≤ 4096) (w : World) (hme : bs m = []) : Calls Tryd.prog 23 #[.agg #[.int .i64 3, .string t, .string m]] w fun e w' => e = .returned (.string (txt ([123, 35] ++ bs t ++ [125]))) ∧ Below w.heap.size w w' := by
  have B1 : Hid (Below w.heap.size w (w.alloc (.cells #[.int .i64 3, .string t, .string m] 30))) := zH (zB.alloc zL _)
  have K1 : Hid (Blk (w.alloc (.cells #[.int .i64 3, .string t, .string m] 30)) w.heap.size 30 #[.int .i64 3, .string t, .string m]) := zH (Blk.new _ _ _)
  have zt := ht
  have zm := hm
  have y0 : (⟨#[123, 35]⟩ : ByteArray).size = 2 := rfl
  have z0 : (⟨#[123, 35]⟩ : ByteArray).size ≤ 10 := by omega
  have q1 : ¬ 9223372036854775807 < ((⟨#[123, 35]⟩ : ByteArray)).size + (t).size := by omega
  have z1 : (((⟨#[123, 35]⟩ : ByteArray) ++ t)).size ≤ 30000 := by rw [ByteArray.size_append]; omega
  have y2 : (⟨#[125]⟩ : ByteArray).size = 1 := rfl
  have q2 : ¬ 9223372036854775807 < (((⟨#[123, 35]⟩ : ByteArray) ++ t)).size + ((⟨#[125]⟩ : ByteArray)).size := by omega
  have z2 : ((((⟨#[123, 35]⟩ : ByteArray) ++ t) ++ (⟨#[125]⟩ : ByteArray))).size ≤ 60000 := by rw [ByteArray.size_append]; omega
  clear z0
  clear z1
  clear z2
  clear y0
  clear y2
  clear zt zm
  have e1 := empty_bs (t := m) (b := true) (by simpa using hme)
  have e2 := empty_bsn (t := m) (b := true) (by simpa using hme)
  have e3 : m.toList.isEmpty = true := by rw [← e1]; cases m.toList <;> rfl
  go_enter Tryd.func23, Tryd.ntmps23
  go_upto_region 1 with fail
  generalize World.alloc _ _ = w1 at *
  obtain ⟨c0, z0, c1, z1, c2, z2, l0⟩ := Blk.f3 K1.out
  go_wp2_with fail
  go_ret
  exact ⟨by rw [← txt_bs (_ ++ _)]; simp only [bs_append]; rfl, B1.out⟩
theorem shown4 (t m : ByteArray) (ht : t.size ≤ 4096) (hm : m.size ≤ 4096) (w : World) (hme : bs m = []) : Calls Tryd.prog 23 #[.agg #[.int .i64 4, .string t, .string m]] w fun e w' => e = .returned (.string (txt ([123, 45, 62] ++ bs t ++ [125]))) ∧ Below w.heap.size w w' := by
  have B1 : Hid (Below w.heap.size w (w.alloc (.cells #[.int .i64 4, .string t, .string m] 30))) := zH (zB.alloc zL _)
  have K1 : Hid (Blk (w.alloc (.cells #[.int .i64 4, .string t, .string m] 30)) w.heap.size 30 #[.int .i64 4, .string t, .string m]) := zH (Blk.new _ _ _)
  have zt := ht
  have zm := hm
  have y0 : (⟨#[123, 45, 62]⟩ : ByteArray).size = 3 := rfl
  have z0 : (⟨#[123, 45, 62]⟩ : ByteArray).size ≤ 10 := by omega
  have q1 : ¬ 9223372036854775807 < ((⟨#[123, 45, 62]⟩ : ByteArray)).size + (t).size := by omega
  have z1 : (((⟨#[123, 45, 62]⟩ : ByteArray) ++ t)).size ≤ 30000 := by rw [ByteArray.size_append]; omega
  have y2 : (⟨#[125]⟩ : ByteArray).size = 1 := rfl
  have q2 : ¬ 9223372036854775807 < (((⟨#[123, 45, 62]⟩ : ByteArray) ++ t)).size + ((⟨#[125]⟩ : ByteArray)).size := by omega
  have z2 : ((((⟨#[123, 45, 62]⟩ : ByteArray) ++ t) ++ (⟨#[125]⟩ : ByteArray))).size ≤ 60000 := by rw [ByteArray.size_append]; omega
  clear z0
  clear z1
  clear z2
  clear y0
  clear y2
  clear zt zm
  have e1 := empty_bs (t := m) (b := true) (by simpa using hme)
  have e2 := empty_bsn (t := m) (b := true) (by simpa using hme)
  have e3 : m.toList.isEmpty = true := by rw [← e1]; cases m.toList <;> rfl
  go_enter Tryd.func23, Tryd.ntmps23
  go_upto_region 1 with fail
  generalize World.alloc _ _ = w1 at *
  obtain ⟨c0, z0, c1, z1, c2, z2, l0⟩ := Blk.f3 K1.out
  go_wp2_with fail
  go_ret
  exact ⟨by rw [← txt_bs (_ ++ _)]; simp only [bs_append]; rfl, B1.out⟩
theorem shown4m (t m : ByteArray) (ht : t.size ≤ 4096) (hm : m.size ≤ 4096) (w : World) (hme : bs m ≠ []) : Calls Tryd.prog 23 #[.agg #[.int .i64 4, .string t, .string m]] w fun e w' => e = .returned (.string (txt ([123, 45, 62] ++ bs t ++ [46] ++ bs m ++ [125]))) ∧ Below w.heap.size w w' := by
  have B1 : Hid (Below w.heap.size w (w.alloc (.cells #[.int .i64 4, .string t, .string m] 30))) := zH (zB.alloc zL _)
  have K1 : Hid (Blk (w.alloc (.cells #[.int .i64 4, .string t, .string m] 30)) w.heap.size 30 #[.int .i64 4, .string t, .string m]) := zH (Blk.new _ _ _)
  have zt := ht
  have zm := hm
  have y0 : (⟨#[123, 45, 62]⟩ : ByteArray).size = 3 := rfl
  have z0 : (⟨#[123, 45, 62]⟩ : ByteArray).size ≤ 10 := by omega
  have q1 : ¬ 9223372036854775807 < ((⟨#[123, 45, 62]⟩ : ByteArray)).size + (t).size := by omega
  have z1 : (((⟨#[123, 45, 62]⟩ : ByteArray) ++ t)).size ≤ 30000 := by rw [ByteArray.size_append]; omega
  have y2 : (⟨#[46]⟩ : ByteArray).size = 1 := rfl
  have q2 : ¬ 9223372036854775807 < (((⟨#[123, 45, 62]⟩ : ByteArray) ++ t)).size + ((⟨#[46]⟩ : ByteArray)).size := by omega
  have z2 : ((((⟨#[123, 45, 62]⟩ : ByteArray) ++ t) ++ (⟨#[46]⟩ : ByteArray))).size ≤ 60000 := by rw [ByteArray.size_append]; omega
  have q3 : ¬ 9223372036854775807 < ((((⟨#[123, 45, 62]⟩ : ByteArray) ++ t) ++ (⟨#[46]⟩ : ByteArray))).size + (m).size := by omega
  have z3 : (((((⟨#[123, 45, 62]⟩ : ByteArray) ++ t) ++ (⟨#[46]⟩ : ByteArray)) ++ m)).size ≤ 90000 := by rw [ByteArray.size_append]; omega
  have y4 : (⟨#[125]⟩ : ByteArray).size = 1 := rfl
  have q4 : ¬ 9223372036854775807 < (((((⟨#[123, 45, 62]⟩ : ByteArray) ++ t) ++ (⟨#[46]⟩ : ByteArray)) ++ m)).size + ((⟨#[125]⟩ : ByteArray)).size := by omega
  have z4 : ((((((⟨#[123, 45, 62]⟩ : ByteArray) ++ t) ++ (⟨#[46]⟩ : ByteArray)) ++ m) ++ (⟨#[125]⟩ : ByteArray))).size ≤ 120000 := by rw [ByteArray.size_append]; omega
  clear z0
  clear z1
  clear z2
  clear z3
  clear z4
  clear y0
  clear y2
  clear y4
  clear zt zm
  have e1 := empty_bs (t := m) (b := false) (by simpa using hme)
  have e2 := empty_bsn (t := m) (b := false) (by simpa using hme)
  have e3 : m.toList.isEmpty = false := by rw [← e1]; cases m.toList <;> rfl
  go_enter Tryd.func23, Tryd.ntmps23
  go_upto_region 1 with fail
  generalize World.alloc _ _ = w1 at *
  obtain ⟨c0, z0, c1, z1, c2, z2, l0⟩ := Blk.f3 K1.out
  go_wp2_with fail
  go_ret
  exact ⟨by rw [← txt_bs (_ ++ _)]; simp only [bs_append]; rfl, B1.out⟩
theorem shown5 (t m : ByteArray) (ht : t.size ≤ 4096) (hm : m.size ≤ 4096) (w : World)  : Calls Tryd.prog 23 #[.agg #[.int .i64 5, .string t, .string m]] w fun e w' => e = .returned (.string (txt ([123, 61] ++ bs t ++ [125]))) ∧ Below w.heap.size w w' := by
  have B1 : Hid (Below w.heap.size w (w.alloc (.cells #[.int .i64 5, .string t, .string m] 30))) := zH (zB.alloc zL _)
  have K1 : Hid (Blk (w.alloc (.cells #[.int .i64 5, .string t, .string m] 30)) w.heap.size 30 #[.int .i64 5, .string t, .string m]) := zH (Blk.new _ _ _)
  have zt := ht
  have zm := hm
  have y0 : (⟨#[123, 61]⟩ : ByteArray).size = 2 := rfl
  have z0 : (⟨#[123, 61]⟩ : ByteArray).size ≤ 10 := by omega
  have q1 : ¬ 9223372036854775807 < ((⟨#[123, 61]⟩ : ByteArray)).size + (t).size := by omega
  have z1 : (((⟨#[123, 61]⟩ : ByteArray) ++ t)).size ≤ 30000 := by rw [ByteArray.size_append]; omega
  have y2 : (⟨#[125]⟩ : ByteArray).size = 1 := rfl
  have q2 : ¬ 9223372036854775807 < (((⟨#[123, 61]⟩ : ByteArray) ++ t)).size + ((⟨#[125]⟩ : ByteArray)).size := by omega
  have z2 : ((((⟨#[123, 61]⟩ : ByteArray) ++ t) ++ (⟨#[125]⟩ : ByteArray))).size ≤ 60000 := by rw [ByteArray.size_append]; omega
  clear z0
  clear z1
  clear z2
  clear y0
  clear y2
  clear zt zm
  go_enter Tryd.func23, Tryd.ntmps23
  go_upto_region 1 with fail
  generalize World.alloc _ _ = w1 at *
  obtain ⟨c0, z0, c1, z1, c2, z2, l0⟩ := Blk.f3 K1.out
  go_wp2_with fail
  go_ret
  exact ⟨by rw [← txt_bs (_ ++ _)]; simp only [bs_append]; rfl, B1.out⟩
theorem shown3m (t m : ByteArray) (ht : t.size ≤ 4096) (hm : m.size ≤ 4096) (w : World) (hme : bs m ≠ []) : Calls Tryd.prog 23 #[.agg #[.int .i64 3, .string t, .string m]] w fun e w' => e = .returned (.string (txt ([123, 35] ++ bs t ++ [32] ++ quoteN (bs m) ++ [125]))) ∧ Below w.heap.size w w' := by
  have B1 : Hid (Below w.heap.size w (w.alloc (.cells #[.int .i64 3, .string t, .string m] 30))) := zH (zB.alloc zL _)
  have K1 : Hid (Blk (w.alloc (.cells #[.int .i64 3, .string t, .string m] 30)) w.heap.size 30 #[.int .i64 3, .string t, .string m]) := zH (Blk.new _ _ _)
  have hql : (quoteN (bs m)).length ≤ 20000 := by
    have := flat_len (bs m)
    rw [bs_len] at this
    show ((34 :: (bs m).flatMap formN) ++ [34]).length ≤ 20000
    rw [List.length_append, List.length_cons, List.length_singleton]
    omega
  have hqs : (txt (quoteN (bs m))).size ≤ 20000 := by rw [txt_size]; exact hql
  have u1 : ¬ 9223372036854775807 < 2 + t.size := by omega
  have u2 : ¬ 9223372036854775806 < 2 + t.size := by omega
  have u3 : ¬ 9223372036854775807 < 2 + t.size + 1 + (txt (quoteN (bs m))).size := by omega
  have u4 : ¬ 9223372036854775806 < 2 + t.size + 1 + (txt (quoteN (bs m))).size := by omega
  have u5 : ¬ 9223372036854775807 ≤ 2 + t.size := by omega
  have u6 : ¬ 9223372036854775807 ≤ 2 + t.size + 1 + (txt (quoteN (bs m))).size := by omega
  have u7 : ¬ 9223372036854775807 < 2 + t.size + 1 := by omega
  have u8 : ¬ 9223372036854775807 < 2 + t.size + 1 + (txt (quoteN (bs m))).size + 1 := by omega
  have zt := ht
  have zm := hm
  have y0 : (⟨#[123, 35]⟩ : ByteArray).size = 2 := rfl
  have z0 : (⟨#[123, 35]⟩ : ByteArray).size ≤ 10 := by omega
  have q1 : ¬ 9223372036854775807 < ((⟨#[123, 35]⟩ : ByteArray)).size + (t).size := by omega
  have z1 : (((⟨#[123, 35]⟩ : ByteArray) ++ t)).size ≤ 30000 := by rw [ByteArray.size_append]; omega
  have y2 : (⟨#[32]⟩ : ByteArray).size = 1 := rfl
  have q2 : ¬ 9223372036854775807 < (((⟨#[123, 35]⟩ : ByteArray) ++ t)).size + ((⟨#[32]⟩ : ByteArray)).size := by omega
  have z2 : ((((⟨#[123, 35]⟩ : ByteArray) ++ t) ++ (⟨#[32]⟩ : ByteArray))).size ≤ 60000 := by rw [ByteArray.size_append]; omega
  have q3 : ¬ 9223372036854775807 < ((((⟨#[123, 35]⟩ : ByteArray) ++ t) ++ (⟨#[32]⟩ : ByteArray))).size + ((txt (quoteN (bs m)))).size := by omega
  have z3 : (((((⟨#[123, 35]⟩ : ByteArray) ++ t) ++ (⟨#[32]⟩ : ByteArray)) ++ (txt (quoteN (bs m))))).size ≤ 90000 := by rw [ByteArray.size_append]; omega
  have y4 : (⟨#[125]⟩ : ByteArray).size = 1 := rfl
  have q4 : ¬ 9223372036854775807 < (((((⟨#[123, 35]⟩ : ByteArray) ++ t) ++ (⟨#[32]⟩ : ByteArray)) ++ (txt (quoteN (bs m))))).size + ((⟨#[125]⟩ : ByteArray)).size := by omega
  have z4 : ((((((⟨#[123, 35]⟩ : ByteArray) ++ t) ++ (⟨#[32]⟩ : ByteArray)) ++ (txt (quoteN (bs m)))) ++ (⟨#[125]⟩ : ByteArray))).size ≤ 120000 := by rw [ByteArray.size_append]; omega
  clear z0
  clear z1
  clear z2
  clear z3
  clear z4
  clear y0
  clear y2
  clear y4
  clear zt zm
  have e1 := empty_bs (t := m) (b := false) (by simpa using hme)
  have e2 := empty_bsn (t := m) (b := false) (by simpa using hme)
  have e3 : m.toList.isEmpty = false := by rw [← e1]; cases m.toList <;> rfl
  go_enter Tryd.func23, Tryd.ntmps23
  go_upto_region 1 with fail
  generalize World.alloc _ _ = w1 at *
  obtain ⟨c0, z0, c1, z1, c2, z2, l0⟩ := Blk.f3 K1.out
  go_wp2_with fail
  have QC : Hid (∀ W, Calls Tryd.prog 36 #[.string m] W fun e w' => e = .returned (.string (txt (quoteN (bs m)))) ∧ Below W.heap.size W w') := zH (fun W => quote_any m (by omega) W)
  go_region_held3 (fun w' => w'.cell? ⟨w.heap.size, 1, none⟩ = some (.string t) ∧ w'.cell? ⟨w.heap.size, 2, none⟩ = some (.string m))
    (first | exact ⟨c1, c2⟩ | exact ⟨k1, k2⟩ | go_keep | fail)
    (first
      | (go_at_call 36; refine (QC.out _).mono ?_; rintro e w2 ⟨rfl, h1⟩; have K2 : Hid (Blk w2 w.heap.size 30 #[.int .i64 3, .string t, .string m]) := zH ((h1.block _ l0).trans K1.out); have B2 : Hid (Below w.heap.size w w2) := zH ((below_drewN B1.out 1).trans (h1.mono B1.out.size)); clear h1; obtain ⟨k0, y0, k1, y1, k2, y2, m0⟩ := Blk.f3 K2.out))
  all_goals
    go_wp2_with fail
    go_ret
    exact ⟨by rw [← txt_bs (_ ++ _)]; simp only [bs_append, bs_txt (quote_bytes (bs_bytes m))]; rfl, B2.out⟩
theorem shown_word (t m : ByteArray) (k : Int) (ht : t.size ≤ 4096) (hm : m.size ≤ 4096) (w : World) (h2 : k ≠ 2) (h3 : k ≠ 3) (h4 : k ≠ 4) (h5 : k ≠ 5) : Calls Tryd.prog 23 #[.agg #[.int .i64 k, .string t, .string m]] w fun e w' => e = .returned (.string (txt (bracesN (bs t)))) ∧ Below w.heap.size w w' := by
  have B1 : Hid (Below w.heap.size w (w.alloc (.cells #[.int .i64 k, .string t, .string m] 30))) := zH (zB.alloc zL _)
  have K1 : Hid (Blk (w.alloc (.cells #[.int .i64 k, .string t, .string m] 30)) w.heap.size 30 #[.int .i64 k, .string t, .string m]) := zH (Blk.new _ _ _)
  have k2 : (k == 2) = false := by simp; omega
  have k3 : (k == 3) = false := by simp; omega
  have k4 : (k == 4) = false := by simp; omega
  have k5 : (k == 5) = false := by simp; omega
  go_enter Tryd.func23, Tryd.ntmps23
  go_upto_region 1 with fail
  generalize World.alloc _ _ = w1 at *
  obtain ⟨c0, z0, c1, z1, c2, z2, l0⟩ := Blk.f3 K1.out
  have R1 : Hid (∀ W, Calls Tryd.prog 37 #[.string t, .string ⟨#[123]⟩, .string ⟨#[123, 123]⟩] W fun e w' => e = .returned (.string (txt (twiceN 123 (bs t)))) ∧ Below W.heap.size W w') := zH (fun W => replace_all t (by omega) 123 W)
  have R2 : Hid (∀ W, Calls Tryd.prog 37 #[.string (txt (twiceN 123 (bs t))), .string ⟨#[125]⟩, .string ⟨#[125, 125]⟩] W fun e w' => e = .returned (.string (txt (bracesN (bs t)))) ∧ Below W.heap.size W w') := zH (fun W => by
    have := replace_all (txt (twiceN 123 (bs t))) (by rw [txt_size]; have := twice_len 123 (bs t); rw [bs_len] at this; omega) 125 W
    rw [bs_txt (twice_bytes (bs_bytes t))] at this
    exact this)
  have tokA : True := trivial
  go_wp2_with (first
    | (have _t := tokA; go_at_call 37; (with_reducible refine (R1.out _).mono ?_); clear tokA _t; rintro e w2 ⟨rfl, h1⟩; have B2 : Hid (Below w.heap.size w w2) := zH (B1.out.trans (h1.mono B1.out.size)); clear h1)
    | (go_at_call 37; (with_reducible refine (R2.out _).mono ?_); rintro e w3 ⟨rfl, h1⟩; have B3 : Hid (Below w.heap.size w w3) := zH (B2.out.trans (h1.mono B2.out.size)); clear h1))
  go_ret
  exact ⟨rfl, B3.out⟩
theorem shown_any (c : Cell) (ht : c.text.size ≤ 4096) (hm : c.mark.size ≤ 4096) (w : World) : Calls Tryd.prog 23 #[.agg #[.int .i64 c.kind, .string c.text, .string c.mark]] w fun e w' => e = .returned (.string (txt (shownP c.pc))) ∧ Below w.heap.size w w' := by
  obtain ⟨k, t, m⟩ := c
  simp only at ht hm ⊢
  obtain ⟨R, hR⟩ : ∃ R, shownP (Cell.pc ⟨k, t, m⟩) = R := ⟨_, rfl⟩
  rw [hR]
  replace hR : shownP ⟨k, bs t, bs m⟩ = R := hR
  unfold shownP at hR
  simp only at hR
  by_cases k2 : k = 2
  · rw [if_pos k2] at hR; subst k2 hR; exact shown2 t m ht hm w
  rw [if_neg k2] at hR
  by_cases k3 : k = 3
  · rw [if_pos k3] at hR
    subst k3
    by_cases he : bs m = []
    · rw [if_pos he] at hR; subst hR; exact shown3 t m ht hm w he
    · rw [if_neg he] at hR; subst hR; exact shown3m t m ht hm w he
  rw [if_neg k3] at hR
  by_cases k4 : k = 4
  · rw [if_pos k4] at hR
    subst k4
    by_cases he : bs m = []
    · rw [if_pos he] at hR; subst hR; exact shown4 t m ht hm w he
    · rw [if_neg he] at hR; subst hR; exact shown4m t m ht hm w he
  rw [if_neg k4] at hR
  by_cases k5 : k = 5
  · rw [if_pos k5] at hR; subst k5 hR; exact shown5 t m ht hm w
  rw [if_neg k5] at hR
  subst hR
  exact shown_word t m k ht hm w k2 k3 k4 k5
end Go.Proofs.YtpkggobhhieeoaaDoor
namespace Go.Proofs.YtpkggobhhieeoaaDoor
open Go.RowKit
theorem right_all : ∀ (l : List Pc) (w : Bool) (i x : Nat), rightG w i l = (x, 0) → ∀ p ∈ l, plainP p = true
  | [], _, _, _, _, p, hp => by cases hp
  | q :: r, w, i, x, h, p, hp => by
    rw [rightG] at h
    split at h
    · rename_i hc
      rcases List.mem_cons.1 hp with rfl | hp
      · exact hc.1
      · exact right_all r _ _ x h p hp
    · simp at h
theorem right_plain {l : List Pc} (h : (rightP l).2 = 0) : l.length ≤ 64 ∧ ∀ p ∈ l, plainP p = true := by
  unfold rightP at h
  split at h
  · simp at h
  · rename_i h1
    exact ⟨by omega, right_all l false 0 (rightG false 0 l).1 (Prod.ext rfl h)⟩
theorem plain_len {p : Pc} (h : plainP p = true) : p.text.length + p.mark.length ≤ 4096 := by
  unfold plainP at h
  rw [Bool.and_eq_true] at h
  exact of_decide_eq_true h.1
theorem shown_len {p : Pc} (h : p.text.length + p.mark.length ≤ 4096) : (shownP p).length ≤ 40000 := by
  have h1 := twice_len 123 p.text
  have h2 := twice_len 125 (twiceN 123 p.text)
  have h3 := flat_len p.mark
  unfold shownP bracesN quoteN
  split
  · simp; omega
  · split
    · split
      · simp; omega
      · simp only [List.length_append, List.length_cons, List.length_nil]; omega
    · split
      · split <;> simp <;> omega
      · split
        · simp; omega
        · omega
theorem shown_bytes {p : Pc} (h1 : Bytes p.text) (h2 : Bytes p.mark) : Bytes (shownP p) := by
  have hc : ∀ l : List Nat, (∀ x ∈ l, x < 256) → Bytes l := fun l h => h
  have hq := quote_bytes h2
  have hb : Bytes (bracesN p.text) := twice_bytes (twice_bytes h1)
  have c1 : ∀ l : List Nat, (l.all fun x => decide (x < 256)) = true → Bytes l := fun l h x hx => of_decide_eq_true (List.all_eq_true.1 h x hx)
  unfold shownP
  split
  · exact bytes_app (bytes_app (c1 _ rfl) h1) (c1 _ rfl)
  · split
    · split
      · exact bytes_app (bytes_app (c1 _ rfl) h1) (c1 _ rfl)
      · exact bytes_app (bytes_app (bytes_app (bytes_app (c1 _ rfl) h1) (c1 _ rfl)) hq) (c1 _ rfl)
    · split
      · split
        · exact bytes_app (bytes_app (c1 _ rfl) h1) (c1 _ rfl)
        · exact bytes_app (bytes_app (bytes_app (bytes_app (c1 _ rfl) h1) (c1 _ rfl)) h2) (c1 _ rfl)
      · split
        · exact bytes_app (bytes_app (c1 _ rfl) h1) (c1 _ rfl)
        · exact hb
theorem flat_take {l : List Pc} {k : Nat} {p : Pc} (h : l[k]? = some p) : (l.take (k + 1)).flatMap shownP = (l.take k).flatMap shownP ++ shownP p := by
  rw [List.take_add_one, h, List.flatMap_append]
  simp
theorem print_row {l : List Cell} {v : Value} (w w0 : World) (hs : SlR w0 w0.heap.size 3 Cell.Is v l) (h47 : ∀ c ∈ l, c.lt47) (hm : Marks w0) (hg : Signs w0) (hw : Below w0.heap.size w0 w) :
    Calls Tryd.prog 11 #[v] w fun e w' => e = .returned (.tuple #[.string (txt (printP (l.map Cell.pc)).1), .int .i64 ((printP (l.map Cell.pc)).2 : Int)]) ∧ Below w.heap.size w w' := by
  have RR := zH (right_row w w0 hs h47 hm hg hw)
  obtain ⟨a, c, rfl⟩ : ∃ a c, v = .slice a l.length c := by obtain ⟨a, c, h, _⟩ := hs.form; exact ⟨a, c, h⟩
  obtain ⟨n, hn⟩ : ∃ n, l.length = n := ⟨_, rfl⟩
  rw [hn] at hs RR ⊢
  obtain ⟨lp, hlp⟩ : ∃ lp, l.map Cell.pc = lp := ⟨_, rfl⟩
  have hln : lp.length = n := by rw [← hlp, List.length_map, hn]
  rw [hlp] at RR ⊢
  obtain ⟨⟨at_, er⟩, hR⟩ : ∃ R, rightP lp = R := ⟨_, rfl⟩
  obtain ⟨R, hRP⟩ : ∃ R, printP lp = R := ⟨_, rfl⟩
  rw [hR] at RR
  rw [hRP]
  have hpr : R = if er ≠ 0 then ([], er) else if 4096 < (lp.flatMap shownP).length then ([], 3) else (lp.flatMap shownP, 0) := by rw [← hRP]; unfold printP; rw [hR]
  have Hs := zH hs
  have Hn := zH hn
  have Hln := zH hln
  have Hlp := zH hlp
  have HwB := zH hw
  by_cases he : er = 0
  rotate_left
  · have hv : R = ([], er) := by rw [hpr, if_pos he]
    subst hv
    have e1 : ((er : Int) != 0) = true := by simp; omega
    clear hs hn hln hlp h47 hm hg hw hR hRP hpr
    go_enter Tryd.func11, Tryd.ntmps11
    go_wp2_with (go_at_call 12; (with_reducible refine RR.out.mono ?_); rintro e w1 ⟨rfl, h1⟩; have B1 := zH h1; clear h1)
    go_ret2
    exact ⟨rfl, B1.out⟩
  · subst he
    rw [if_neg (by simp)] at hpr
    have hpl := right_plain (l := lp) (by rw [hR])
    rw [hln] at hpl
    have HPL := zH hpl.2
    have n64 : n ≤ 64 := hpl.1
    have HPR := zH hpr
    clear hs hn hln hlp h47 hm hg hw hR hRP hpr hpl
    go_enter Tryd.func11, Tryd.ntmps11
    go_upto_region 5 with (go_at_call 12; (with_reducible refine RR.out.mono ?_); rintro e w1 ⟨rfl, h1⟩; have B1 := zH h1; clear h1)
    have T2 : Hid (BuiltSt (w1.alloc (.cells #[.pointer none, .slice none 0 0] 53)) w1.heap.size w1.heap.size []) := zH (BuiltSt.new w1)
    have B2 : Hid (Below w.heap.size w (w1.alloc (.cells #[.pointer none, .slice none 0 0] 53))) := zH (B1.out.alloc B1.out.size _)
    have hL : w1.heap.size ≤ (w1.alloc (.cells #[.pointer none, .slice none 0 0] 53)).heap.size := by simp
    have hB1 : w.heap.size ≤ w1.heap.size := B1.out.size
    obtain ⟨b, hb⟩ : ∃ b, w1.heap.size = b := ⟨_, rfl⟩
    rw [hb] at T2 hL hB1 ⊢
    generalize World.alloc w1 _ = w2 at *
    clear hb
    go_wp2_with fail
    go_loopg [2, 3, 8, 19] n (fun gk v2 v3 _ v19 wr => ∃ k : Nat, v2 = .string ⟨#[]⟩ ∧ v3 = .int .i64 0 ∧ v19 = .int .i64 (k : Int) ∧ k ≤ n ∧ n = gk + k ∧ ((lp.take k).flatMap shownP).length ≤ 4096 ∧ Hid (BuiltSt wr b b ((lp.take k).flatMap shownP)) ∧ Hid (Below w.heap.size w wr) ∧ b ≤ wr.heap.size)
    case atStart => exact ⟨0, rfl, rfl, rfl, Nat.zero_le _, by omega, by simp, T2, B2, hL⟩
    case round =>
      clear T2 B2 hL
      obtain ⟨k, rfl, rfl, rfl, hk, hgn, hlen, hT, hB, hbw⟩ := hrel
      have GN := zH hgn
      clear hgn
      have k0 : (0 : Int) ≤ (k : Int) := Int.natCast_nonneg _
      have hbz := hB.out.size
      by_cases hlt : k < n
      · have d3 : decide (k < n) = true := by simpa using hlt
        obtain ⟨c, hc⟩ := get_some Hn.out hlt
        have hpc : lp[k]? = some c.pc := by rw [← Hlp.out, List.getElem?_map, hc]; rfl
        have hw1 := HwB.out.trans (hB.out.mono HwB.out.size)
        obtain ⟨bb, off, x, rfl, hbB, hxl, ⟨rfl, hcok⟩, hx⟩ := (Hs.out.below hw1).at_ hc
        have x0 := hx 0 _ rfl
        have x1 := hx 1 _ rfl
        have x2 := hx 2 _ rfl
        rw [Nat.add_zero] at x0
        have hpl := HPL.out c.pc (List.mem_iff_getElem?.2 ⟨k, hpc⟩)
        have hsl := plain_len hpl
        have hs1 : c.text.size + c.mark.size ≤ 4096 := by have h := hsl; simp only [Cell.pc, bs_len] at h; exact h
        have hsh := shown_len hsl
        have hshb : Bytes (shownP c.pc) := shown_bytes (bs_bytes _) (bs_bytes _)
        have hft := flat_take hpc
        have HFT := zH hft
        have T3 := zH (hT.out.keep ((Below.refl wr.heap.size wr).alloc zL (.cells #[.int .i64 c.kind, .string c.text, .string c.mark] 30)))
        have B3 : Hid (Below w.heap.size w (wr.alloc (.cells #[.int .i64 c.kind, .string c.text, .string c.mark] 30))) := zH (hB.out.alloc hB.out.size _)
        have hz3 : b ≤ (wr.alloc (.cells #[.int .i64 c.kind, .string c.text, .string c.mark] 30)).heap.size := by simp; omega
        have SHC := zH (fun W => shown_any c (by omega) (by omega) W)
        have hlw : ((lp.take k).flatMap shownP).length + (txt (shownP c.pc)).size ≤ 140737488355328 := by rw [txt_size]; omega
        have HBY := zH hshb
        have HMO : Hid (((lp.take (k + 1)).flatMap shownP).length ≤ (lp.flatMap shownP).length) := zH (by
          conv => rhs; rw [← List.take_append_drop (k + 1) lp, List.flatMap_append, List.length_append]
          omega)
        obtain ⟨len2, hl2⟩ : ∃ z, ((lp.take (k + 1)).flatMap shownP).length = z := ⟨_, rfl⟩
        have HL2 := zH hl2
        have W3 := zH (fun W (hT : BuiltSt W b b ((lp.take k).flatMap shownP)) (hz : b ≤ W.heap.size) => (show Calls Tryd.prog 22 #[.pointer (some ⟨b, 0, none⟩), .string (txt (shownP c.pc))] W fun e w' => e = .returned (.tuple #[.int .i64 (txt (shownP c.pc)).size, .nilIface]) ∧ BuiltSt w' b b ((lp.take (k + 1)).flatMap shownP) ∧ Below b W w' by
          refine (write_text (txt (shownP c.pc)) hT hlw hz).mono fun e w' h => ⟨h.1, ?_, h.2.2.1⟩
          have h2 := h.2.1
          rw [bs_txt HBY.out, ← HFT.out] at h2
          exact h2))
        have LN2 := zH (fun W (hT : BuiltSt W b b ((lp.take (k + 1)).flatMap shownP)) => (show Calls Tryd.prog 24 #[.pointer (some ⟨b, 0, none⟩)] W fun e w' => e = .returned (.int .i64 (len2 : Int)) ∧ w' = W by have := built_len hT; rw [HL2.out] at this; exact this))
        clear hx hw1 hpl hpc hc hsl hs1 hsh hshb hft hlw hl2
        by_cases hbig : 4096 < len2
        · have dd : decide ((4096 : Int) < (len2 : Int)) = true := by simp; omega
          have dd2 : (4096 : Int) < (len2 : Int) := by omega
          have hv : R = ([], 3) := by rw [HPR.out, if_pos (by have := HMO.out; have := HL2.out; omega)]
          subst hv
          go_wp2_with (first
            | (go_at_call 23; (refine (SHC.out _).mono ?_); rintro e w4 ⟨rfl, h1⟩; have T4 := zH (T3.out.keep h1); have B4 := zH (B3.out.trans (h1.mono B3.out.size)); have hz4 : b ≤ w4.heap.size := Nat.le_trans hz3 h1.size; clear h1)
            | (go_at_call 22; (refine (W3.out _ T4.out hz4).mono ?_); rintro e w5 ⟨rfl, h1, h2⟩; have T5 := zH h1; have B5 := zH (B4.out.trans (h2.mono hB1)); have hz5 : b ≤ w5.heap.size := Nat.le_trans hz4 h2.size; clear h1 h2)
            | (go_at_call 24; (with_reducible refine (LN2.out _ T5.out).mono ?_); rintro e w' ⟨rfl, h0⟩; have h0 := h0.symm; subst h0))
          go_ret2
          exact ⟨rfl, B5.out⟩
        · have dd : decide ((4096 : Int) < (len2 : Int)) = false := by simp; omega
          have dd2 : ¬ (4096 : Int) < (len2 : Int) := by omega
          go_wp2_with (first
            | (go_at_call 23; (refine (SHC.out _).mono ?_); rintro e w4 ⟨rfl, h1⟩; have T4 := zH (T3.out.keep h1); have B4 := zH (B3.out.trans (h1.mono B3.out.size)); have hz4 : b ≤ w4.heap.size := Nat.le_trans hz3 h1.size; clear h1)
            | (go_at_call 22; (refine (W3.out _ T4.out hz4).mono ?_); rintro e w5 ⟨rfl, h1, h2⟩; have T5 := zH h1; have B5 := zH (B4.out.trans (h2.mono hB1)); have hz5 : b ≤ w5.heap.size := Nat.le_trans hz4 h2.size; clear h1 h2)
            | (go_at_call 24; (with_reducible refine (LN2.out _ T5.out).mono ?_); rintro e w' ⟨rfl, h0⟩; have h0 := h0.symm; subst h0))
          go_roundg (gk - 1)
          case measure => have := GN.out; omega
          case rel => exact ⟨k + 1, rfl, rfl, by go_num, by omega, by have := GN.out; omega, by rw [HL2.out]; omega, T5, B5, hz5⟩
      · have d3 : decide (k < n) = false := by simpa using hlt
        have hkn : lp.take k = lp := List.take_of_length_le (by rw [Hln.out]; omega)
        rw [hkn] at hT hlen
        have hv : R = (lp.flatMap shownP, 0) := by rw [HPR.out, if_neg (by omega)]
        subst hv
        go_wp2_with (go_at_call 25; (refine (built_text hT.out hbw).mono ?_); rintro e w3 ⟨rfl, h1⟩; have B3 := zH (hB.out.trans (h1.mono hB1)); clear h1)
        go_ret2
        exact ⟨rfl, B3.out⟩
end Go.Proofs.YtpkggobhhieeoaaDoor
namespace Go.Proofs.YtpkggobhhieeoaaDoor
theorem right_parts {s : List Nat} (h : rightN s = true) : ∃ c t, s = c :: t ∧ letterN c = true ∧ s.all furtherN = true ∧ s.length ≤ 32 := by
  cases s with
  | nil => simp [rightN] at h
  | cons c t =>
    simp only [rightN, Bool.and_eq_true, decide_eq_true_eq] at h
    exact ⟨c, t, rfl, h.1.2, h.2, h.1.1⟩
end Go.Proofs.YtpkggobhhieeoaaDoor
namespace Go.Proofs.YtpkggobhhieeoaaDoor
open Go.RowKit
section
variable {t x y : List Nat} {i b : Nat}
theorem at_drop (h : t.drop i = x) (k : Nat) : t[i + k]? = x[k]? := by rw [← h, List.getElem?_drop]
theorem drop_more (h : t.drop i = x ++ y) : t.drop (i + x.length) = y := by rw [← List.drop_drop, h, List.drop_left]
theorem cut_drop (h : t.drop i = x ++ y) {n : Nat} (hn : n ≤ x.length) : cutN t i (i + n) = x.take n := by
  unfold cutN
  rw [List.drop_take, h, show i + n - i = n by omega, List.take_append_of_le_length hn]
theorem drop_len (h : t.drop i = x ++ y) (hx : x ≠ []) : i + x.length ≤ t.length := by
  have h1 := congrArg List.length h
  rw [List.length_drop, List.length_append] at h1
  have h2 : 0 < x.length := List.length_pos_iff.2 hx
  omega
end
theorem right_take {nm : List Nat} {k : Nat} (h : rightN nm = true) (hk : 1 ≤ k) : rightN (nm.take k) = true := by
  obtain ⟨c, t, rfl, h1, h2, h3⟩ := right_parts h
  obtain ⟨k, rfl⟩ : ∃ j, k = j + 1 := ⟨k - 1, by omega⟩
  rw [List.take_succ_cons]
  show (decide ((c :: t.take k).length ≤ 32) && letterN c && (c :: t.take k).all furtherN) = true
  rw [h1, Bool.and_true, Bool.and_eq_true]
  refine ⟨decide_eq_true ?_, List.all_eq_true.2 fun z hz => ?_⟩
  · rw [List.length_cons, List.length_take]; rw [List.length_cons] at h3; omega
  · refine List.all_eq_true.1 h2 z ?_
    rcases List.mem_cons.1 hz with rfl | hz
    · simp
    · exact List.mem_cons_of_mem _ (List.mem_of_mem_take hz)
theorem right_more {nm : List Nat} {c : Nat} (h : nm ≠ []) (hc : furtherN c = false) : rightN (nm ++ [c]) = false := by
  cases nm with
  | nil => exact absurd rfl h
  | cons d t =>
    show (decide ((d :: (t ++ [c])).length ≤ 32) && letterN d && (d :: (t ++ [c])).all furtherN) = false
    have : (d :: (t ++ [c])).all furtherN = false := by
      rw [List.all_eq_false]
      exact ⟨c, by simp, by simp [hc]⟩
    rw [this, Bool.and_false]
theorem right_ne {nm : List Nat} (h : rightN nm = true) : nm ≠ [] := fun e => by rw [e] at h; cases h
theorem name_at {t nm y : List Nat} {b : Nat} (h : t.drop b = nm ++ y) (hn : rightN nm = true) (hy : ∀ c, y.head? = some c → furtherN c = false) : nameS t b = .inl (nm, b + nm.length) := by
  have hne := right_ne hn
  have hpos : 0 < nm.length := List.length_pos_iff.2 hne
  have hlen := drop_len h hne
  have key : ∀ f n, b ≤ n → n ≤ b + nm.length → b + nm.length - n ≤ f → nameTo t b f n = b + nm.length := by
    intro f
    induction f with
    | zero => intro n h1 h2 h3; show n = _; omega
    | succ f ih =>
      intro n h1 h2 h3
      rw [nameTo]
      by_cases hlt : n < b + nm.length
      · have hc : cutN t b (n + 1) = nm.take (n + 1 - b) := by
          have := cut_drop h (n := n + 1 - b) (by omega)
          rwa [show b + (n + 1 - b) = n + 1 by omega] at this
        rw [if_pos ⟨by omega, by rw [hc]; exact right_take hn (by omega)⟩]
        exact ih (n + 1) (by omega) (by omega) (by omega)
      · have hnb : n = b + nm.length := by omega
        rw [if_neg]
        · exact hnb
        · rintro ⟨h4, h5⟩
          have hd := drop_more h
          rw [← hnb] at hd
          cases hyc : y with
          | nil => rw [hyc] at hd; have := congrArg List.length hd; rw [List.length_drop, List.length_nil] at this; omega
          | cons c z =>
            have hc : cutN t b (n + 1) = nm ++ [c] := by
              have h6 : t.drop b = (nm ++ [c]) ++ z := by rw [h, hyc]; simp
              have := cut_drop h6 (n := nm.length + 1) (by simp)
              rw [show b + (nm.length + 1) = n + 1 by omega, List.take_of_length_le (by simp)] at this
              exact this
            rw [hc, right_more hne (hy c (by rw [hyc]; rfl))] at h5
            cases h5
  have hE : nameE t b = b + nm.length := key _ _ zL (by omega) (by omega)
  unfold nameS
  rw [hE, if_neg (by omega)]
  have := cut_drop h zL
  rw [List.take_length] at this
  rw [this]
theorem mark_at {t m y : List Nat} {a : Nat} (ht : Bytes t) (hm : Bytes m) (h : t.drop a = quoteN m ++ y) (hne : m ≠ []) : markS t a = .inl (m, a + (quoteN m).length) := by
  have h1 : t.drop a = 34 :: (m.flatMap formN ++ 34 :: y) := by rw [h]; unfold quoteN; simp
  have hy : Bytes y := fun z hz => ht z (List.mem_of_mem_drop (i := a) (by rw [h]; exact List.mem_append_right _ hz))
  have h34 : t[a]? = some 34 := by have := at_drop h1 0; simpa using this
  have hq := quote_tok ht h1.symm
  rw [qR_of_form m y hm hy] at hq
  simp only at hq
  have hl : (quoteN m).length = (m.flatMap formN).length + 2 := by unfold quoteN; simp
  unfold markS
  rw [if_neg (by rw [h34]; simp), hq]
  simp only
  rw [if_neg (by simp), if_neg hne, hl]
  congr 2
  omega
theorem end_chars {t z : List Nat} : ∀ (x : List Nat) (i f : Nat), (∀ c ∈ x, c ≠ 34 ∧ c ≠ 125) → t.drop i = x ++ z → x.length ≤ f → endTo t f i = endTo t (f - x.length) (i + x.length)
  | [], i, f, _, _, _ => rfl
  | c :: x, i, f, hx, h, hf => by
    have hc := hx c (by simp)
    have h0 : t[i]? = some c := by have := at_drop h 0; simpa using this
    have hd : t.drop (i + 1) = x ++ z := by rw [← List.drop_drop, h]; rfl
    rw [List.length_cons] at hf
    rw [← end_on rfl (by omega) h0 hc.2 hc.1, end_chars x (i + 1) (f - 1) (fun d hd => hx d (List.mem_cons_of_mem _ hd)) hd (by omega), List.length_cons]
    congr 1
    · omega
    · omega
theorem num_chars : ∀ (r : List Nat) (j n : Nat), ∀ c ∈ r.take ((numScan r j n).2.1 - j), 48 ≤ c ∧ c ≤ 57
  | [], j, n, c, h => by simp at h
  | d :: r, j, n, c, h => by
    rw [numScan] at h
    split at h
    · rename_i hd
      split at h
      · simp at h
      · have hm := (num_mono r (j + 1) (10 * n + (d - 48))).1
        rw [show (numScan r (j + 1) (10 * n + (d - 48))).2.1 - j = ((numScan r (j + 1) (10 * n + (d - 48))).2.1 - (j + 1)) + 1 by omega, List.take_succ_cons] at h
        rcases List.mem_cons.1 h with rfl | h
        · exact hd
        · exact num_chars r _ _ c h
    · simp at h
theorem tw_mem {p : Nat → Bool} : ∀ (l : List Nat), ∀ c ∈ l.takeWhile p, p c = true
  | [], c, h => by simp at h
  | d :: l, c, h => by
    rw [List.takeWhile_cons] at h
    split at h
    · rename_i hd
      rcases List.mem_cons.1 h with rfl | h
      · exact hd
      · exact tw_mem l c h
    · simp at h
theorem tw_take {p : Nat → Bool} : ∀ (l : List Nat), l.take (l.takeWhile p).length = l.takeWhile p
  | [] => rfl
  | d :: l => by
    rw [List.takeWhile_cons]
    split
    · rw [List.length_cons, List.take_succ_cons, tw_take l]
    · rfl
theorem tok_plain {r : List Nat} {t : Nat × List Nat × Int} {n : Nat} (h34 : r.head? ≠ some 34) (h : tokR r = (some t, n)) : ∀ c ∈ r.take n, c ≠ 34 ∧ c ≠ 125 := by
  cases r with
  | nil => intro c hc; simp at hc
  | cons d r =>
    rw [tokR_step (by simpa using h34)] at h
    by_cases hd : 48 ≤ d ∧ d ≤ 57
    · rw [stepP_digit hd] at h
      split at h
      · injection h with _ h2
        subst h2
        intro c hc
        have := num_chars (d :: r) 0 0 c (by rw [Nat.sub_zero]; exact hc)
        omega
      · cases h
    · by_cases hl : letterN d = true
      · rw [stepP_letter hl] at h
        split at h
        · injection h with _ h2
          subst h2
          intro c hc
          rw [tw_take] at hc
          have := tw_mem _ c hc
          constructor <;> intro e <;> subst e <;> revert this <;> decide
        · cases h
      · rw [stepP_mark hd hl] at h
        split at h
        · cases h
        · rename_i hm
          injection h with _ h2
          subst h2
          obtain ⟨h3, h4, z, h5⟩ := mark_found hm
          intro c hc
          rw [h4] at hc
          have h7 : (d :: r).take (markN (d :: r)).1.length = (markN (d :: r)).1 := by
            have h8 := List.take_left (l₁ := (markN (d :: r)).1) (l₂ := z)
            rw [← h5] at h8
            exact h8
          rw [h7] at hc
          have h6 : ∀ m ∈ marksL, ∀ c ∈ m, c ≠ 34 ∧ c ≠ 125 := by decide
          exact h6 _ h3 c hc
theorem end_run {r : List Nat} {i0 : Nat} {T : List Tok} {r' : List Nat} {i' : Nat} (h : Run r i0 T r' i') : r' = [] → Bytes r → ∀ (t y : List Nat) (i f : Nat), Bytes t → t.drop i = r ++ 125 :: y → r.length ≤ f → endTo t f i = i + r.length := by
  induction h with
  | done r i0 =>
    intro h0 _ t y i f _ ht _
    subst h0
    have h1 : t[i]? = some 125 := by have := at_drop ht 0; simpa using this
    exact end_end rfl (fun _ => h1)
  | @blank c r i0 T r' i' hb h ih =>
    intro h0 hr t y i f htb ht hf
    have h1 : t[i]? = some c := by have := at_drop ht 0; simpa using this
    rw [List.length_cons] at hf
    rw [← end_on rfl (by omega) h1 (by omega) (by omega), ih h0 (fun z hz => hr z (List.mem_cons_of_mem _ hz)) t y (i + 1) (f - 1) htb (by rw [← List.drop_drop, ht]; rfl) (by omega), List.length_cons]
    omega
  | @tok r i0 k s v n T r' i' hnb htok h ih =>
    intro h0 hr t y i f htb ht hf
    obtain ⟨hn1, hn2, _⟩ := tok_some hr htok
    have hrd : r = r.take n ++ r.drop n := (List.take_append_drop n r).symm
    have htd : t.drop i = r.take n ++ (r.drop n ++ 125 :: y) := by rw [ht, ← List.append_assoc, List.take_append_drop]
    have htl : (r.take n).length = n := by rw [List.length_take]; omega
    have hd2 := drop_more htd
    rw [htl] at hd2
    have hstep : ∃ f', r.length - n ≤ f' ∧ endTo t f i = endTo t f' (i + n) := by
      by_cases h34 : r.head? = some 34
      · cases hrc : r with
        | nil => rw [hrc] at h34; cases h34
        | cons c r1 =>
          rw [hrc] at h34
          obtain rfl : c = 34 := by simpa using h34
          rw [hrc, tokR_quote] at htok
          have hr1 : Bytes r1 := fun z hz => hr z (by rw [hrc]; exact List.mem_cons_of_mem _ hz)
          obtain ⟨n1, hq⟩ : ∃ n1, ∃ s1, qR r1 = (some s1, n1) ∧ n = n1 + 1 := by
            cases hqr : qR r1 with
            | mk a b =>
              rw [hqr] at htok
              cases a with
              | none => cases htok
              | some s1 =>
                injection htok with _ h2
                exact ⟨b, s1, rfl, h2.symm⟩
          obtain ⟨s1, hq, rfl⟩ := hq
          have hloc := qR_local hr1 hq (r1.drop n1 ++ 125 :: y) (fun z hz => htb z (List.mem_of_mem_drop (i := i) (by
            rw [ht, hrc]
            rcases List.mem_append.1 hz with hz | hz
            · exact List.mem_append_left _ (List.mem_cons_of_mem _ (List.mem_of_mem_drop hz))
            · exact List.mem_append_right _ hz)))
          rw [← List.append_assoc, List.take_append_drop] at hloc
          have h1 : t.drop i = 34 :: (r1 ++ 125 :: y) := by rw [ht, hrc]; rfl
          have hqt := quote_tok htb h1.symm
          rw [hloc] at hqt
          simp only at hqt
          have h2 : t[i]? = some 34 := by have := at_drop h1 0; simpa using this
          refine ⟨f - 1, by rw [hrc] at hf; rw [List.length_cons] at hf ⊢; omega, ?_⟩
          have h3 : quoteTo t i = i + (n1 + 1) := by unfold quoteTo; rw [hqt]; simp; omega
          rw [← h3]
          exact (end_quote rfl (by rw [hrc] at hf; rw [List.length_cons] at hf; omega) h2).symm
      · refine ⟨f - n, by omega, ?_⟩
        have := end_chars (r.take n) i f (tok_plain h34 htok) htd (by rw [htl]; omega)
        rwa [htl] at this
    obtain ⟨f', hf', hst⟩ := hstep
    rw [hst, ih h0 (fun z hz => hr z (List.mem_of_mem_drop hz)) t y (i + n) f' htb hd2 (by rw [List.length_drop]; omega), List.length_drop]
    omega
theorem expr_at {t x y : List Nat} {b : Nat} (ht : Bytes t) (hx : Bytes x) (hl : x.length ≤ 4096) (h : t.drop b = x ++ 125 :: y) (hp : (parseN x).2.2 = 0) : exprS t b = .inl (x, b + x.length) := by
  have hE : endE t b = b + x.length := by
    rcases scan_cases hx hl with ⟨T, i', hT, e⟩ | ⟨T, r', i', n, hT, _, e⟩
    · refine end_run hT rfl hx t y b t.length ht h ?_
      have := congrArg List.length h
      rw [List.length_drop, List.length_append, List.length_cons] at this
      omega
    · exfalso
      rw [parseN_scan (by rw [e]; simp), e] at hp
      cases hp
  have hc := cut_drop h zL
  rw [List.take_length] at hc
  unfold exprS
  rw [hE, hc, if_neg (by simpa using hp)]
theorem braces_cons (c : Nat) (w : List Nat) : bracesN (c :: w) = (if c = 123 ∨ c = 125 then [c, c] else [c]) ++ bracesN w := by
  unfold bracesN
  have h1 : twiceN 123 (c :: w) = (if c = 123 then [c, c] else [c]) ++ twiceN 123 w := rfl
  rw [h1, twice_app]
  congr 1
  by_cases h3 : c = 123
  · subst h3; rfl
  · by_cases h5 : c = 125
    · subst h5; rfl
    · rw [if_neg h3, if_neg (by omega)]
      show (if c = 125 then [c, c] else [c]) ++ [] = [c]
      rw [if_neg h5]
      rfl
def WordEnd (y : List Nat) : Prop := y = [] ∨ ∃ c z, y = 123 :: c :: z ∧ c ≠ 123
theorem word_at {t y : List Nat} (hy : WordEnd y) : ∀ (w : List Nat) (i f : Nat) (o : List Nat), t.drop i = bracesN w ++ y → w.length ≤ f → wordS t f i o = .inl (o ++ w, i + (bracesN w).length)
  | [], i, f, o, h, hf => by
    have h1 : wordS t f i o = .inl (o, i) := word_end rfl (fun c hc => by
      have h2 : t.drop i = y := h
      rcases hy with rfl | ⟨d, z, rfl, hd⟩
      · have := at_drop h2 0
        rw [Nat.add_zero, hc] at this
        cases this
      · have h3 := at_drop h2 0
        have h4 := at_drop h2 1
        rw [Nat.add_zero, hc] at h3
        simp at h3 h4
        exact ⟨h3, by rw [h4]; simpa using hd⟩)
    rw [h1, List.append_nil]
    rfl
  | c :: w, i, f, o, h, hf => by
    rw [braces_cons] at h ⊢
    rw [List.length_cons] at hf
    by_cases hc : c = 123 ∨ c = 125
    · rw [if_pos hc] at h ⊢
      have h0 : t[i]? = some c := by have := at_drop h 0; simpa using this
      have h1 : t[i + 1]? = some c := by have := at_drop h 1; simpa using this
      have hd : t.drop (i + 2) = bracesN w ++ y := by rw [← List.drop_drop, h]; simp
      rw [← word_two rfl (by omega) h0 hc h1, word_at hy w (i + 2) (f - 1) (o ++ [c]) hd (by omega)]
      simp only [List.append_assoc, List.length_append, List.length_cons, List.length_nil]
      congr 2
      omega
    · rw [if_neg hc] at h ⊢
      have h0 : t[i]? = some c := by have := at_drop h 0; simpa using this
      have hd : t.drop (i + 1) = bracesN w ++ y := by rw [← List.drop_drop, h]; simp
      rw [← word_one rfl (by omega) h0 hc, word_at hy w (i + 1) (f - 1) (o ++ [c]) hd (by omega)]
      simp only [List.append_assoc, List.length_append, List.length_cons, List.length_nil]
      congr 2
      omega
end Go.Proofs.YtpkggobhhieeoaaDoor
