/- - - - - - - -/
import Derived.Test.YtpkggobhhieeoaaDoorKMBuild
import Derived.Test.YtpkggobhhieeoaaDoorKM10
import Derived.Test.YtpkggobhhieeoaaDoorKTpX
import Derived.Test.YtpkggobhhieeoaaDoorKTpZ
set_option maxRecDepth 100000
set_option maxHeartbeats 32000000
set_option linter.unusedSimpArgs false
set_option linter.unusedVariables false
namespace Go.Proofs.YtpkggobhhieeoaaDoor
open Go.RowKit
theorem index_first (c : UInt8) : ∀ (u : List UInt8), 0 < u.count c → ∃ i : Nat, Lib.indexByte u c = (i : Int) ∧ u[i]? = some c ∧ ∀ j, j < i → u[j]? ≠ some c
  | [], h => by simp at h
  | b :: l, h => by
    unfold Lib.indexByte
    by_cases hb : b = c
    · subst hb
      exact ⟨0, by simp, rfl, fun j hj => by omega⟩
    · have h1 : 0 < l.count c := by
        rw [List.count_cons] at h
        simpa [hb] using h
      obtain ⟨i, hi, h2, h3⟩ := index_first c l h1
      refine ⟨i + 1, ?_, h2, fun j hj => ?_⟩
      · rw [hi]
        have h5 : ((i : Int) == -1) = false := by simp
        have h6 : (b == c) = false := by simpa using hb
        rw [h5, h6]
        simp
      · cases j with
        | zero => simpa using hb
        | succ j => exact h3 j (by omega)
theorem twice_none {c : Nat} : ∀ {l : List Nat}, (∀ x ∈ l, x ≠ c) → twiceN c l = l
  | [], _ => rfl
  | x :: l, h => by
    have h1 := h x (by simp)
    show (if x = c then [x, x] else [x]) ++ twiceN c l = x :: l
    rw [if_neg h1, twice_none (fun y hy => h y (List.mem_cons_of_mem _ hy))]
    rfl
theorem twice_app (c : Nat) (l m : List Nat) : twiceN c (l ++ m) = twiceN c l ++ twiceN c m := by unfold twiceN; rw [List.flatMap_append]
theorem twice_len (c : Nat) : ∀ l : List Nat, (twiceN c l).length ≤ 2 * l.length
  | [] => by simp [twiceN]
  | x :: l => by
    have := twice_len c l
    show ((if x = c then [x, x] else [x]) ++ twiceN c l).length ≤ _
    rw [List.length_append, List.length_cons]
    split <;> simp <;> omega
theorem twice_bytes {c : Nat} {l : List Nat} (h : Bytes l) : Bytes (twiceN c l) := fun x hx => by
  unfold twiceN at hx
  obtain ⟨y, hy, hxy⟩ := List.mem_flatMap.1 hx
  split at hxy <;> simp at hxy <;> exact hxy ▸ h y hy
theorem twice_step {c p i : Nat} {l : List Nat} (h1 : l[p + i]? = some c) (h2 : ∀ j, j < i → l[p + j]? ≠ some c) : twiceN c (l.take (p + i + 1)) = twiceN c (l.take p) ++ (l.take (p + i)).drop p ++ [c, c] := by
  have hlt := (List.getElem?_eq_some_iff.1 h1).1
  have e1 : l.take (p + i + 1) = l.take (p + i) ++ [c] := by rw [List.take_add_one, h1]; rfl
  have e2 : l.take (p + i) = l.take p ++ (l.take (p + i)).drop p := by
    conv => lhs; rw [← List.take_append_drop p (l.take (p + i))]
    rw [List.take_take, Nat.min_eq_left (by omega)]
  have e6 : twiceN c ((l.take (p + i)).drop p) = (l.take (p + i)).drop p := twice_none (fun x hx hxc => by
    obtain ⟨k, hk⟩ := List.mem_iff_getElem?.1 hx
    have hk2 := (List.getElem?_eq_some_iff.1 hk).1
    rw [List.length_drop, List.length_take] at hk2
    rw [List.getElem?_drop, List.getElem?_take_of_lt (by omega)] at hk
    subst hxc
    exact h2 k (by omega) hk)
  have e5 : twiceN c (l.take (p + i)) = twiceN c (l.take p) ++ (l.take (p + i)).drop p := by
    conv => lhs; rw [e2]
    rw [twice_app, e6]
  rw [e1, twice_app, e5]
  have e4 : twiceN c [c] = [c, c] := by simp [twiceN]
  rw [e4]
theorem count_toNat (c : UInt8) : ∀ (u : List UInt8), (u.map UInt8.toNat).count c.toNat = u.count c
  | [] => rfl
  | b :: l => by
    rw [List.map_cons, List.count_cons, List.count_cons, count_toNat c l]
    by_cases h : b = c
    · simp [h]
    · have h2 : b.toNat ≠ c.toNat := fun e => h (UInt8.toNat_inj.1 e)
      simp [h, h2]
theorem index_bs (s : ByteArray) (c : UInt8) (h : 0 < (bs s).count c.toNat) : ∃ i : Nat, Lib.indexByte s.data.toList c = (i : Int) ∧ (bs s)[i]? = some c.toNat ∧ ∀ j, j < i → (bs s)[j]? ≠ some c.toNat := by
  have hm : bs s = s.data.toList.map UInt8.toNat := rfl
  rw [hm, count_toNat] at h
  obtain ⟨i, h1, h2, h3⟩ := index_first c _ h
  refine ⟨i, h1, by rw [hm, List.getElem?_map, h2]; rfl, fun j hj e => ?_⟩
  rw [hm, List.getElem?_map] at e
  obtain ⟨y, hy, hyc⟩ := Option.map_eq_some_iff.1 e
  exact h3 j hj (by rw [hy, UInt8.toNat_inj.1 hyc])
theorem twice_rest {c p : Nat} {l : List Nat} (h : (l.drop p).count c = 0) : twiceN c l = twiceN c (l.take p) ++ l.drop p := by
  conv => lhs; rw [← List.take_append_drop p l]
  have e : twiceN c (l.drop p) = l.drop p := twice_none (fun x hx hxc => by
    subst hxc
    have := List.count_pos_iff.2 hx
    omega)
  rw [twice_app, e]
theorem built_fresh {w : World} {B b : Nat} {p : Value} (h : Lib.BuilderAt 53 5 B b p [] w) (hp : p = .pointer none ∨ p = .pointer (some ⟨b, 0, none⟩)) : BuiltSt w B b [] := by
  obtain ⟨h1, v, h2, h3, _⟩ := h
  exact ⟨h1, p, v, hp, h2, ⟨[], h3, FlatR.nil_⟩⟩
theorem count_drop {u : List Nat} {c : Nat} {p i : Nat} (h1 : (u.drop p)[i]? = some c) (h2 : ∀ j, j < i → (u.drop p)[j]? ≠ some c) : (u.drop p).count c = (u.drop (p + i + 1)).count c + 1 := by
  have hlt := (List.getElem?_eq_some_iff.1 h1).1
  have e : u.drop p = (u.drop p).take i ++ c :: u.drop (p + i + 1) := by
    conv => lhs; rw [← List.take_append_drop i (u.drop p)]
    congr 1
    rw [List.drop_eq_getElem_cons hlt, (List.getElem?_eq_some_iff.1 h1).2, List.drop_drop]
    rfl
  rw [e, List.count_append, List.count_cons_self, List.count_eq_zero_of_not_mem]
  · omega
  · intro hm
    obtain ⟨k, hk⟩ := List.mem_iff_getElem?.1 hm
    have hk2 := (List.getElem?_eq_some_iff.1 hk).1
    rw [List.length_take] at hk2
    rw [List.getElem?_take_of_lt (by omega)] at hk
    exact h2 k (by omega) hk
theorem replace_one (s : ByteArray) (hs : s.size ≤ 1048576) (c : UInt8) (w : World) : Calls Tryd.prog 51 #[.string s, .string ⟨#[c]⟩, .string ⟨#[c, c]⟩, .int .i64 (-1)] w fun e w' => e = .returned (.string (txt (twiceN c.toNat (bs s)))) ∧ Below w.heap.size w w' := by
  obtain ⟨n, hn⟩ : ∃ n, s.size = n := ⟨_, rfl⟩
  have hn' : (s.size : Int) = (n : Int) := by rw [hn]
  have Hn := zH hn
  obtain ⟨K, hK⟩ : ∃ K, s.data.toList.count c = K := ⟨_, rfl⟩
  have hKn : K ≤ n := by rw [← hK, ← hn]; exact List.count_le_length
  have hne : ((⟨#[c]⟩ : ByteArray).toList == (⟨#[c, c]⟩ : ByteArray).toList) = false := by
    rw [ByteArray.toList_eq, ByteArray.toList_eq]; simp
  have hsz1 : ((⟨#[c]⟩ : ByteArray).size : Int) = 1 := rfl
  have hsz2 : ((⟨#[c, c]⟩ : ByteArray).size : Int) = 2 := rfl
  have CN := zH (fun W => (show Calls Tryd.prog 67 #[.string s, .string ⟨#[c]⟩] W fun e w' => e = .returned (.int .i64 (K : Int)) ∧ w' = W by have := Go.Proofs.Tryd.strings_Count_one s c W; rw [show Lib.countByte s.data.toList c = K from hK] at this; exact this))
  have hmap : bs s = s.data.toList.map UInt8.toNat := rfl
  rw [hn] at hs
  by_cases hK0 : K = 0
  · have hv : twiceN c.toNat (bs s) = bs s := twice_none (fun x hx hxc => by
      rw [hmap] at hx
      obtain ⟨y, hy, rfl⟩ := List.mem_map.1 hx
      have : y = c := UInt8.toNat_inj.1 hxc
      subst this
      have := List.count_pos_iff.2 hy
      omega)
    rw [hv, txt_bs]
    subst hK0
    clear hK hmap hn
    go_enter Tryd.func51, Tryd.ntmps51
    go_wp2_with (go_at_call 67; (with_reducible refine (CN.out _).mono ?_); rintro e w' ⟨rfl, h0⟩; have h0 := h0.symm; subst h0)
    go_ret
    exact ⟨rfl, zB⟩
  · have hk0 : ((K : Int) == 0) = false := by simp; omega
    have hkb : (K : Int) ≤ (n : Int) := by omega
    have kk0 : (0 : Int) ≤ (K : Int) := Int.natCast_nonneg _
    have HK := zH hK
    have HMAP := zH hmap
    have S0 : Hid (zH True.intro = zH True.intro) := zH rfl
    have Bw0 : Hid (Below w.heap.size w (w.alloc (.cells #[.pointer none, .slice none 0 0] 53))) := zH (zB.alloc zL _)
    have GRW : Hid (Calls Tryd.prog 68 #[.pointer (some ⟨w.heap.size, 0, none⟩), .int .i64 ((n : Int) + (K : Int))] (w.alloc (.cells #[.pointer none, .slice none 0 0] 53)) fun e w' => e = .returned (.tuple #[]) ∧ BuiltSt w' w.heap.size w.heap.size [] ∧ Below w.heap.size (w.alloc (.cells #[.pointer none, .slice none 0 0] 53)) w') := zH (by
      have h := Go.Proofs.Tryd.Builder_Grow_fresh w.heap.size w.heap.size (n + K) (w.alloc (.cells #[.pointer none, .slice none 0 0] 53)) zL (Blk.new w _ _) (by simp) (by omega)
      rw [show ((n + K : Nat) : Int) = (n : Int) + (K : Int) by omega] at h
      exact h.mono fun e w' ⟨h1, h2, h3⟩ => ⟨h1, built_fresh h2 (.inr rfl), h3⟩)
    clear hK hmap hn S0
    go_enter Tryd.func51, Tryd.ntmps51
    go_wp2_with (first
      | (go_at_call 67; (with_reducible refine (CN.out _).mono ?_); rintro e w' ⟨rfl, h0⟩; have h0 := h0.symm; subst h0)
      | (go_at_call 68; go_must (refine GRW.out.mono ?_); rintro e w1 ⟨rfl, h1, h2⟩; have T1 := zH h1; have B1 := zH (Bw0.out.trans h2); clear h1 h2))
    have HC0 : Hid (((bs s).drop 0).count c.toNat = K) := zH (by rw [List.drop_zero, HMAP.out, count_toNat]; exact HK.out)
    go_loopg [11, 12, 53] K (fun gk v11 _ v53 wr => ∃ p t : Nat, v11 = .int .i64 (p : Int) ∧ v53 = .int .i64 (t : Int) ∧ t + gk = K ∧ p ≤ n ∧ Hid (((bs s).drop p).count c.toNat = gk) ∧ Hid (BuiltSt wr w.heap.size w.heap.size (twiceN c.toNat ((bs s).take p))) ∧ Hid (Below w.heap.size w wr))
    case atStart => exact ⟨0, 0, rfl, rfl, by omega, Nat.zero_le _, HC0, T1, B1⟩
    case round =>
      clear T1 B1 GRW CN Bw0
      obtain ⟨p, t, rfl, rfl, htk, hpn, hcnt, hT, hB⟩ := hrel
      have p0 : (0 : Int) ≤ (p : Int) := Int.natCast_nonneg _
      have p1 : (p : Int) ≤ (n : Int) := by omega
      have pz : (p : Int) ≤ 1048576 := by omega
      have hbz := hB.out.size
      have hlT : (twiceN c.toNat ((bs s).take p)).length ≤ 2097152 := by
        have := twice_len c.toNat ((bs s).take p)
        rw [List.length_take, bs_len] at this
        have h5 := Hn.out
        omega
      have HTK := zH htk
      clear htk
      have hex : bs (s.extract p s.size) = (bs s).drop p := by rw [bs_extract, List.take_of_length_le (by rw [bs_len]; exact Nat.le_refl _)]
      have hexs : (s.extract p s.size).size ≤ 1048576 := by rw [← bs_len, hex, List.length_drop, bs_len, Hn.out]; omega
      by_cases htK : t < K
      · have d1 : decide (t < K) = true := by simpa using htK
        have hg1 : 1 ≤ gk := by have := HTK.out; omega
        obtain ⟨i, hi, hi1, hi2⟩ := index_bs (s.extract p s.size) c (by rw [hex]; have := hcnt.out; omega)
        rw [hex] at hi1 hi2
        have hcd := count_drop hi1 hi2
        have hi1' : (bs s)[p + i]? = some c.toNat := by rw [← hi1, List.getElem?_drop]
        have hi2' : ∀ j, j < i → (bs s)[p + j]? ≠ some c.toNat := fun j hj => by have := hi2 j hj; rwa [List.getElem?_drop] at this
        have hst := twice_step hi1' hi2'
        have hil : p + i < n := by have := (List.getElem?_eq_some_iff.1 hi1').1; rw [bs_len, Hn.out] at this; exact this
        have HST := zH hst
        have HCD : Hid (((bs s).drop (p + i + 1)).count c.toNat = gk - 1) := zH (by have := hcnt.out; omega)
        have IXC := zH (fun W => (show Calls Tryd.prog 69 #[.string (s.extract p s.size), .string ⟨#[c]⟩] W fun e w' => e = .returned (.int .i64 (i : Int)) ∧ w' = W by have := Go.Proofs.Tryd.strings_Index_one (s.extract p s.size) c W; rw [hi] at this; exact this))
        have i0 : (0 : Int) ≤ (i : Int) := Int.natCast_nonneg _
        have i1 : (p : Int) + (i : Int) + 1 ≤ (n : Int) := by omega
        have ewr : (p : Int) + (i : Int) = ((p + i : Nat) : Int) := by omega
        have hx2 : bs (s.extract p (p + i)) = ((bs s).take (p + i)).drop p := by rw [bs_extract]
        have hx2s : (s.extract p (p + i)).size ≤ 1048576 := by rw [← bs_len, hx2, List.length_drop, List.length_take, bs_len, Hn.out]; omega
        have W1 := zH (write_text (s.extract p (p + i)) hT.out (by omega) hbz)
        rw [hx2] at W1
        have HEX := zH hx2s
        have tok1 : True := trivial
        have tok2 : True := trivial
        have hlen2 : (twiceN c.toNat ((bs s).take p) ++ ((bs s).take (p + i)).drop p).length ≤ 4194304 := by
          rw [List.length_append, List.length_drop, List.length_take, bs_len, Hn.out]; omega
        clear hi hi1 hi2 hi1' hi2' hcd hst hex hexs hx2 hx2s hlT ewr
        go_wp2_with (first
          | (go_at_call 69; (with_reducible refine (IXC.out _).mono ?_); rintro e w' ⟨rfl, h0⟩; have h0 := h0.symm; subst h0)
          | (have _t := tok1; go_at_call 22; (with_reducible refine W1.out.mono ?_); clear tok1 _t; rintro e w2 ⟨rfl, h1, h2, _⟩; have T2 := zH h1; have B2 := zH (hB.out.trans h2); have hz2 : w.heap.size ≤ w2.heap.size := B2.out.size; have W2 := zH (write_text ⟨#[c, c]⟩ h1 (by rw [show (⟨#[c, c]⟩ : ByteArray).size = 2 from rfl]; omega) hz2); clear h1 h2)
          | (go_at_call 22; (with_reducible refine W2.out.mono ?_); rintro e w3 ⟨rfl, h1, h2, _⟩; have T3 := zH h1; have B3 := zH (B2.out.trans h2); clear h1 h2))
        go_roundg (gk - 1)
        case measure => omega
        case rel => exact ⟨p + i + 1, t + 1, by go_num, by go_num, by have := HTK.out; omega, by omega, HCD, zH (by rw [HST.out]; exact T3.out), B3⟩
      · have d1 : decide (t < K) = false := by simpa using htK
        have hg0 : gk = 0 := by have := HTK.out; omega
        have hrest := twice_rest (c := c.toNat) (p := p) (l := bs s) (by rw [hcnt.out]; exact hg0)
        have HRS := zH hrest
        have W1 := zH (write_text (s.extract p s.size) hT.out (by omega) hbz)
        rw [hex] at W1
        clear hrest hex hexs hlT
        go_wp2_with (first
          | (go_at_call 22; (with_reducible refine W1.out.mono ?_); rintro e w2 ⟨rfl, h1, h2, _⟩; have T2 := zH h1; have B2 := zH (hB.out.trans h2); have hz2 : w.heap.size ≤ w2.heap.size := B2.out.size; clear h1 h2)
          | (go_at_call 25; (refine (built_text T2.out hz2).mono ?_); rintro e w3 ⟨rfl, h1⟩; have B3 := zH (B2.out.trans h1); clear h1))
        go_ret
        exact ⟨by rw [HRS.out]; rfl, B3.out⟩
theorem replace_all (s : ByteArray) (hs : s.size ≤ 1048576) (c : UInt8) (w : World) : Calls Tryd.prog 37 #[.string s, .string ⟨#[c]⟩, .string ⟨#[c, c]⟩] w fun e w' => e = .returned (.string (txt (twiceN c.toNat (bs s)))) ∧ Below w.heap.size w w' := by
  have H := zH (replace_one s hs c w)
  go_enter Tryd.func37, Tryd.ntmps37
  go_wp2_with (go_at_call 51; (with_reducible refine H.out.mono ?_); rintro e w1 ⟨rfl, h1⟩)
  go_ret
  exact ⟨rfl, h1⟩
end Go.Proofs.YtpkggobhhieeoaaDoor
namespace Go.Proofs.YtpkggobhhieeoaaDoor
open Go.RowKit
theorem shown2 (t m : ByteArray) (ht : t.size ≤ 4096) (hm : m.size ≤ 4096) (w : World)  : Calls Tryd.prog 23 #[.agg #[.int .i64 2, .string t, .string m]] w fun e w' => e = .returned (.string (txt ([123, 46] ++ bs t ++ [125]))) ∧ Below w.heap.size w w' := by
  have B1 : Hid (Below w.heap.size w (w.alloc (.cells #[.int .i64 2, .string t, .string m] 30))) := zH (zB.alloc zL _)
  have K1 : Hid (Blk (w.alloc (.cells #[.int .i64 2, .string t, .string m] 30)) w.heap.size 30 #[.int .i64 2, .string t, .string m]) := zH (Blk.new _ _ _)
  have zt := ht
  have zm := hm
  have y0 : (⟨#[123, 46]⟩ : ByteArray).size = 2 := rfl
  have z0 : (⟨#[123, 46]⟩ : ByteArray).size ≤ 10 := by omega
  have q1 : ¬ 9223372036854775807 < ((⟨#[123, 46]⟩ : ByteArray)).size + (t).size := by omega
  have z1 : (((⟨#[123, 46]⟩ : ByteArray) ++ t)).size ≤ 30000 := by rw [ByteArray.size_append]; omega
  have y2 : (⟨#[125]⟩ : ByteArray).size = 1 := rfl
  have q2 : ¬ 9223372036854775807 < (((⟨#[123, 46]⟩ : ByteArray) ++ t)).size + ((⟨#[125]⟩ : ByteArray)).size := by omega
  have z2 : ((((⟨#[123, 46]⟩ : ByteArray) ++ t) ++ (⟨#[125]⟩ : ByteArray))).size ≤ 60000 := by rw [ByteArray.size_append]; omega
  clear z0
  clear z1
  clear z2
  clear y0
  clear y2
  clear zt zm
  go_enter Tryd.func23, Tryd.ntmps23
  go_upto_region 1 with fail
  generalize World.alloc _ _ = w1 at *
  obtain ⟨c0, z0, c1, z1, c2, z2, l0⟩ := Blk.f3 K1.out
  go_wp2_with fail
  go_ret
  exact ⟨by rw [← txt_bs (_ ++ _)]; simp only [bs_append]; rfl, B1.out⟩
theorem shown3 (t m : ByteArray) (ht : t.size ≤ 4096) (hm : m.size ≤ 4096) (w : World) (hme : bs m = []) : Calls Tryd.prog 23 #[.agg #[.int .i64 3, .string t, .string m]] w fun e w' => e = .returned (.string (txt ([123, 35] ++ bs t ++ [125]))) ∧ Below w.heap.size w w' := by
  have B1 : Hid (Below w.heap.size w (w.alloc (.cells #[.int .i64 3, .string t, .string m] 30))) := zH (zB.alloc zL _)
  have K1 : Hid (Blk (w.alloc (.cells #[.int .i64 3, .string t, .string m] 30)) w.heap.size 30 #[.int .i64 3, .string t, .string m]) := zH (Blk.new _ _ _)
  have zt := ht
  have zm := hm
  have y0 : (⟨#[123, 35]⟩ : ByteArray).size = 2 := rfl
  have z0 : (⟨#[123, 35]⟩ : ByteArray).size ≤ 10 := by omega
  have q1 : ¬ 9223372036854775807 < ((⟨#[123, 35]⟩ : ByteArray)).size + (t).size := by omega
  have z1 : (((⟨#[123, 35]⟩ : ByteArray) ++ t)).size ≤ 30000 := by rw [ByteArray.size_append]; omega
  have y2 : (⟨#[125]⟩ : ByteArray).size = 1 := rfl
  have q2 : ¬ 9223372036854775807 < (((⟨#[123, 35]⟩ : ByteArray) ++ t)).size + ((⟨#[125]⟩ : ByteArray)).size := by omega
  have z2 : ((((⟨#[123, 35]⟩ : ByteArray) ++ t) ++ (⟨#[125]⟩ : ByteArray))).size ≤ 60000 := by rw [ByteArray.size_append]; omega
  clear z0
  clear z1
  clear z2
  clear y0
  clear y2
  clear zt zm
  have e1 := empty_bs (t := m) (b := true) (by simpa using hme)
  have e2 := empty_bsn (t := m) (b := true) (by simpa using hme)
  have e3 : m.toList.isEmpty = true := by rw [← e1]; cases m.toList <;> rfl
  go_enter Tryd.func23, Tryd.ntmps23
  go_upto_region 1 with fail
  generalize World.alloc _ _ = w1 at *
  obtain ⟨c0, z0, c1, z1, c2, z2, l0⟩ := Blk.f3 K1.out
  go_wp2_with fail
  go_ret
  exact ⟨by rw [← txt_bs (_ ++ _)]; simp only [bs_append]; rfl, B1.out⟩
theorem shown4 (t m : ByteArray) (ht : t.size ≤ 4096) (hm : m.size ≤ 4096) (w : World) (hme : bs m = []) : Calls Tryd.prog 23 #[.agg #[.int .i64 4, .string t, .string m]] w fun e w' => e = .returned (.string (txt ([123, 45, 62] ++ bs t ++ [125]))) ∧ Below w.heap.size w w' := by
  have B1 : Hid (Below w.heap.size w (w.alloc (.cells #[.int .i64 4, .string t, .string m] 30))) := zH (zB.alloc zL _)
  have K1 : Hid (Blk (w.alloc (.cells #[.int .i64 4, .string t, .string m] 30)) w.heap.size 30 #[.int .i64 4, .string t, .string m]) := zH (Blk.new _ _ _)
  have zt := ht
  have zm := hm
  have y0 : (⟨#[123, 45, 62]⟩ : ByteArray).size = 3 := rfl
  have z0 : (⟨#[123, 45, 62]⟩ : ByteArray).size ≤ 10 := by omega
  have q1 : ¬ 9223372036854775807 < ((⟨#[123, 45, 62]⟩ : ByteArray)).size + (t).size := by omega
  have z1 : (((⟨#[123, 45, 62]⟩ : ByteArray) ++ t)).size ≤ 30000 := by rw [ByteArray.size_append]; omega
  have y2 : (⟨#[125]⟩ : ByteArray).size = 1 := rfl
  have q2 : ¬ 9223372036854775807 < (((⟨#[123, 45, 62]⟩ : ByteArray) ++ t)).size + ((⟨#[125]⟩ : ByteArray)).size := by omega
  have z2 : ((((⟨#[123, 45, 62]⟩ : ByteArray) ++ t) ++ (⟨#[125]⟩ : ByteArray))).size ≤ 60000 := by rw [ByteArray.size_append]; omega
  clear z0
  clear z1
  clear z2
  clear y0
  clear y2
  clear zt zm
  have e1 := empty_bs (t := m) (b := true) (by simpa using hme)
  have e2 := empty_bsn (t := m) (b := true) (by simpa using hme)
  have e3 : m.toList.isEmpty = true := by rw [← e1]; cases m.toList <;> rfl
  go_enter Tryd.func23, Tryd.ntmps23
  go_upto_region 1 with fail
  generalize World.alloc _ _ = w1 at *
  obtain ⟨c0, z0, c1, z1, c2, z2, l0⟩ := Blk.f3 K1.out
  go_wp2_with fail
  go_ret
  exact ⟨by rw [← txt_bs (_ ++ _)]; simp only [bs_append]; rfl, B1.out⟩
theorem shown4m (t m : ByteArray) (ht : t.size ≤ 4096) (hm : m.size ≤ 4096) (w : World) (hme : bs m ≠ []) : Calls Tryd.prog 23 #[.agg #[.int .i64 4, .string t, .string m]] w fun e w' => e = .returned (.string (txt ([123, 45, 62] ++ bs t ++ [46] ++ bs m ++ [125]))) ∧ Below w.heap.size w w' := by
  have B1 : Hid (Below w.heap.size w (w.alloc (.cells #[.int .i64 4, .string t, .string m] 30))) := zH (zB.alloc zL _)
  have K1 : Hid (Blk (w.alloc (.cells #[.int .i64 4, .string t, .string m] 30)) w.heap.size 30 #[.int .i64 4, .string t, .string m]) := zH (Blk.new _ _ _)
  have zt := ht
  have zm := hm
  have y0 : (⟨#[123, 45, 62]⟩ : ByteArray).size = 3 := rfl
  have z0 : (⟨#[123, 45, 62]⟩ : ByteArray).size ≤ 10 := by omega
  have q1 : ¬ 9223372036854775807 < ((⟨#[123, 45, 62]⟩ : ByteArray)).size + (t).size := by omega
  have z1 : (((⟨#[123, 45, 62]⟩ : ByteArray) ++ t)).size ≤ 30000 := by rw [ByteArray.size_append]; omega
  have y2 : (⟨#[46]⟩ : ByteArray).size = 1 := rfl
  have q2 : ¬ 9223372036854775807 < (((⟨#[123, 45, 62]⟩ : ByteArray) ++ t)).size + ((⟨#[46]⟩ : ByteArray)).size := by omega
  have z2 : ((((⟨#[123, 45, 62]⟩ : ByteArray) ++ t) ++ (⟨#[46]⟩ : ByteArray))).size ≤ 60000 := by rw [ByteArray.size_append]; omega
  have q3 : ¬ 9223372036854775807 < ((((⟨#[123, 45, 62]⟩ : ByteArray) ++ t) ++ (⟨#[46]⟩ : ByteArray))).size + (m).size := by omega
  have z3 : (((((⟨#[123, 45, 62]⟩ : ByteArray) ++ t) ++ (⟨#[46]⟩ : ByteArray)) ++ m)).size ≤ 90000 := by rw [ByteArray.size_append]; omega
  have y4 : (⟨#[125]⟩ : ByteArray).size = 1 := rfl
  have q4 : ¬ 9223372036854775807 < (((((⟨#[123, 45, 62]⟩ : ByteArray) ++ t) ++ (⟨#[46]⟩ : ByteArray)) ++ m)).size + ((⟨#[125]⟩ : ByteArray)).size := by omega
  have z4 : ((((((⟨#[123, 45, 62]⟩ : ByteArray) ++ t) ++ (⟨#[46]⟩ : ByteArray)) ++ m) ++ (⟨#[125]⟩ : ByteArray))).size ≤ 120000 := by rw [ByteArray.size_append]; omega
  clear z0
  clear z1
  clear z2
  clear z3
  clear z4
  clear y0
  clear y2
  clear y4
  clear zt zm
  have e1 := empty_bs (t := m) (b := false) (by simpa using hme)
  have e2 := empty_bsn (t := m) (b := false) (by simpa using hme)
  have e3 : m.toList.isEmpty = false := by rw [← e1]; cases m.toList <;> rfl
  go_enter Tryd.func23, Tryd.ntmps23
  go_upto_region 1 with fail
  generalize World.alloc _ _ = w1 at *
  obtain ⟨c0, z0, c1, z1, c2, z2, l0⟩ := Blk.f3 K1.out
  go_wp2_with fail
  go_ret
  exact ⟨by rw [← txt_bs (_ ++ _)]; simp only [bs_append]; rfl, B1.out⟩
theorem shown5 (t m : ByteArray) (ht : t.size ≤ 4096) (hm : m.size ≤ 4096) (w : World)  : Calls Tryd.prog 23 #[.agg #[.int .i64 5, .string t, .string m]] w fun e w' => e = .returned (.string (txt ([123, 61] ++ bs t ++ [125]))) ∧ Below w.heap.size w w' := by
  have B1 : Hid (Below w.heap.size w (w.alloc (.cells #[.int .i64 5, .string t, .string m] 30))) := zH (zB.alloc zL _)
  have K1 : Hid (Blk (w.alloc (.cells #[.int .i64 5, .string t, .string m] 30)) w.heap.size 30 #[.int .i64 5, .string t, .string m]) := zH (Blk.new _ _ _)
  have zt := ht
  have zm := hm
  have y0 : (⟨#[123, 61]⟩ : ByteArray).size = 2 := rfl
  have z0 : (⟨#[123, 61]⟩ : ByteArray).size ≤ 10 := by omega
  have q1 : ¬ 9223372036854775807 < ((⟨#[123, 61]⟩ : ByteArray)).size + (t).size := by omega
  have z1 : (((⟨#[123, 61]⟩ : ByteArray) ++ t)).size ≤ 30000 := by rw [ByteArray.size_append]; omega
  have y2 : (⟨#[125]⟩ : ByteArray).size = 1 := rfl
  have q2 : ¬ 9223372036854775807 < (((⟨#[123, 61]⟩ : ByteArray) ++ t)).size + ((⟨#[125]⟩ : ByteArray)).size := by omega
  have z2 : ((((⟨#[123, 61]⟩ : ByteArray) ++ t) ++ (⟨#[125]⟩ : ByteArray))).size ≤ 60000 := by rw [ByteArray.size_append]; omega
  clear z0
  clear z1
  clear z2
  clear y0
  clear y2
  clear zt zm
  go_enter Tryd.func23, Tryd.ntmps23
  go_upto_region 1 with fail
  generalize World.alloc _ _ = w1 at *
  obtain ⟨c0, z0, c1, z1, c2, z2, l0⟩ := Blk.f3 K1.out
  go_wp2_with fail
  go_ret
  exact ⟨by rw [← txt_bs (_ ++ _)]; simp only [bs_append]; rfl, B1.out⟩
theorem shown3m (t m : ByteArray) (ht : t.size ≤ 4096) (hm : m.size ≤ 4096) (w : World) (hme : bs m ≠ []) : Calls Tryd.prog 23 #[.agg #[.int .i64 3, .string t, .string m]] w fun e w' => e = .returned (.string (txt ([123, 35] ++ bs t ++ [32] ++ quoteN (bs m) ++ [125]))) ∧ Below w.heap.size w w' := by
  have B1 : Hid (Below w.heap.size w (w.alloc (.cells #[.int .i64 3, .string t, .string m] 30))) := zH (zB.alloc zL _)
  have K1 : Hid (Blk (w.alloc (.cells #[.int .i64 3, .string t, .string m] 30)) w.heap.size 30 #[.int .i64 3, .string t, .string m]) := zH (Blk.new _ _ _)
  have hql : (quoteN (bs m)).length ≤ 20000 := by
    have := flat_len (bs m)
    rw [bs_len] at this
    show ((34 :: (bs m).flatMap formN) ++ [34]).length ≤ 20000
    rw [List.length_append, List.length_cons, List.length_singleton]
    omega
  have hqs : (txt (quoteN (bs m))).size ≤ 20000 := by rw [txt_size]; exact hql
  have u1 : ¬ 9223372036854775807 < 2 + t.size := by omega
  have u2 : ¬ 9223372036854775806 < 2 + t.size := by omega
  have u3 : ¬ 9223372036854775807 < 2 + t.size + 1 + (txt (quoteN (bs m))).size := by omega
  have u4 : ¬ 9223372036854775806 < 2 + t.size + 1 + (txt (quoteN (bs m))).size := by omega
  have u5 : ¬ 9223372036854775807 ≤ 2 + t.size := by omega
  have u6 : ¬ 9223372036854775807 ≤ 2 + t.size + 1 + (txt (quoteN (bs m))).size := by omega
  have u7 : ¬ 9223372036854775807 < 2 + t.size + 1 := by omega
  have u8 : ¬ 9223372036854775807 < 2 + t.size + 1 + (txt (quoteN (bs m))).size + 1 := by omega
  have zt := ht
  have zm := hm
  have y0 : (⟨#[123, 35]⟩ : ByteArray).size = 2 := rfl
  have z0 : (⟨#[123, 35]⟩ : ByteArray).size ≤ 10 := by omega
  have q1 : ¬ 9223372036854775807 < ((⟨#[123, 35]⟩ : ByteArray)).size + (t).size := by omega
  have z1 : (((⟨#[123, 35]⟩ : ByteArray) ++ t)).size ≤ 30000 := by rw [ByteArray.size_append]; omega
  have y2 : (⟨#[32]⟩ : ByteArray).size = 1 := rfl
  have q2 : ¬ 9223372036854775807 < (((⟨#[123, 35]⟩ : ByteArray) ++ t)).size + ((⟨#[32]⟩ : ByteArray)).size := by omega
  have z2 : ((((⟨#[123, 35]⟩ : ByteArray) ++ t) ++ (⟨#[32]⟩ : ByteArray))).size ≤ 60000 := by rw [ByteArray.size_append]; omega
  have q3 : ¬ 9223372036854775807 < ((((⟨#[123, 35]⟩ : ByteArray) ++ t) ++ (⟨#[32]⟩ : ByteArray))).size + ((txt (quoteN (bs m)))).size := by omega
  have z3 : (((((⟨#[123, 35]⟩ : ByteArray) ++ t) ++ (⟨#[32]⟩ : ByteArray)) ++ (txt (quoteN (bs m))))).size ≤ 90000 := by rw [ByteArray.size_append]; omega
  have y4 : (⟨#[125]⟩ : ByteArray).size = 1 := rfl
  have q4 : ¬ 9223372036854775807 < (((((⟨#[123, 35]⟩ : ByteArray) ++ t) ++ (⟨#[32]⟩ : ByteArray)) ++ (txt (quoteN (bs m))))).size + ((⟨#[125]⟩ : ByteArray)).size := by omega
  have z4 : ((((((⟨#[123, 35]⟩ : ByteArray) ++ t) ++ (⟨#[32]⟩ : ByteArray)) ++ (txt (quoteN (bs m)))) ++ (⟨#[125]⟩ : ByteArray))).size ≤ 120000 := by rw [ByteArray.size_append]; omega
  clear z0
  clear z1
  clear z2
  clear z3
  clear z4
  clear y0
  clear y2
  clear y4
  clear zt zm
  have e1 := empty_bs (t := m) (b := false) (by simpa using hme)
  have e2 := empty_bsn (t := m) (b := false) (by simpa using hme)
  have e3 : m.toList.isEmpty = false := by rw [← e1]; cases m.toList <;> rfl
  go_enter Tryd.func23, Tryd.ntmps23
  go_upto_region 1 with fail
  generalize World.alloc _ _ = w1 at *
  obtain ⟨c0, z0, c1, z1, c2, z2, l0⟩ := Blk.f3 K1.out
  go_wp2_with fail
  have QC : Hid (∀ W, Calls Tryd.prog 36 #[.string m] W fun e w' => e = .returned (.string (txt (quoteN (bs m)))) ∧ Below W.heap.size W w') := zH (fun W => quote_any m (by omega) W)
  go_region_held3 (fun w' => w'.cell? ⟨w.heap.size, 1, none⟩ = some (.string t) ∧ w'.cell? ⟨w.heap.size, 2, none⟩ = some (.string m))
    (first | exact ⟨c1, c2⟩ | exact ⟨k1, k2⟩ | go_keep | fail)
    (first
      | (go_at_call 36; refine (QC.out _).mono ?_; rintro e w2 ⟨rfl, h1⟩; have K2 : Hid (Blk w2 w.heap.size 30 #[.int .i64 3, .string t, .string m]) := zH ((h1.block _ l0).trans K1.out); have B2 : Hid (Below w.heap.size w w2) := zH ((below_drewN B1.out 1).trans (h1.mono B1.out.size)); clear h1; obtain ⟨k0, y0, k1, y1, k2, y2, m0⟩ := Blk.f3 K2.out))
  all_goals
    go_wp2_with fail
    go_ret
    exact ⟨by rw [← txt_bs (_ ++ _)]; simp only [bs_append, bs_txt (quote_bytes (bs_bytes m))]; rfl, B2.out⟩
theorem shown_word (t m : ByteArray) (k : Int) (ht : t.size ≤ 4096) (hm : m.size ≤ 4096) (w : World) (h2 : k ≠ 2) (h3 : k ≠ 3) (h4 : k ≠ 4) (h5 : k ≠ 5) : Calls Tryd.prog 23 #[.agg #[.int .i64 k, .string t, .string m]] w fun e w' => e = .returned (.string (txt (bracesN (bs t)))) ∧ Below w.heap.size w w' := by
  have B1 : Hid (Below w.heap.size w (w.alloc (.cells #[.int .i64 k, .string t, .string m] 30))) := zH (zB.alloc zL _)
  have K1 : Hid (Blk (w.alloc (.cells #[.int .i64 k, .string t, .string m] 30)) w.heap.size 30 #[.int .i64 k, .string t, .string m]) := zH (Blk.new _ _ _)
  have k2 : (k == 2) = false := by simp; omega
  have k3 : (k == 3) = false := by simp; omega
  have k4 : (k == 4) = false := by simp; omega
  have k5 : (k == 5) = false := by simp; omega
  go_enter Tryd.func23, Tryd.ntmps23
  go_upto_region 1 with fail
  generalize World.alloc _ _ = w1 at *
  obtain ⟨c0, z0, c1, z1, c2, z2, l0⟩ := Blk.f3 K1.out
  have R1 : Hid (∀ W, Calls Tryd.prog 37 #[.string t, .string ⟨#[123]⟩, .string ⟨#[123, 123]⟩] W fun e w' => e = .returned (.string (txt (twiceN 123 (bs t)))) ∧ Below W.heap.size W w') := zH (fun W => replace_all t (by omega) 123 W)
  have R2 : Hid (∀ W, Calls Tryd.prog 37 #[.string (txt (twiceN 123 (bs t))), .string ⟨#[125]⟩, .string ⟨#[125, 125]⟩] W fun e w' => e = .returned (.string (txt (bracesN (bs t)))) ∧ Below W.heap.size W w') := zH (fun W => by
    have := replace_all (txt (twiceN 123 (bs t))) (by rw [txt_size]; have := twice_len 123 (bs t); rw [bs_len] at this; omega) 125 W
    rw [bs_txt (twice_bytes (bs_bytes t))] at this
    exact this)
  have tokA : True := trivial
  go_wp2_with (first
    | (have _t := tokA; go_at_call 37; (with_reducible refine (R1.out _).mono ?_); clear tokA _t; rintro e w2 ⟨rfl, h1⟩; have B2 : Hid (Below w.heap.size w w2) := zH (B1.out.trans (h1.mono B1.out.size)); clear h1)
    | (go_at_call 37; (with_reducible refine (R2.out _).mono ?_); rintro e w3 ⟨rfl, h1⟩; have B3 : Hid (Below w.heap.size w w3) := zH (B2.out.trans (h1.mono B2.out.size)); clear h1))
  go_ret
  exact ⟨rfl, B3.out⟩
theorem shown_any (c : Cell) (ht : c.text.size ≤ 4096) (hm : c.mark.size ≤ 4096) (w : World) : Calls Tryd.prog 23 #[.agg #[.int .i64 c.kind, .string c.text, .string c.mark]] w fun e w' => e = .returned (.string (txt (shownP c.pc))) ∧ Below w.heap.size w w' := by
  obtain ⟨k, t, m⟩ := c
  simp only at ht hm ⊢
  obtain ⟨R, hR⟩ : ∃ R, shownP (Cell.pc ⟨k, t, m⟩) = R := ⟨_, rfl⟩
  rw [hR]
  replace hR : shownP ⟨k, bs t, bs m⟩ = R := hR
  unfold shownP at hR
  simp only at hR
  by_cases k2 : k = 2
  · rw [if_pos k2] at hR; subst k2 hR; exact shown2 t m ht hm w
  rw [if_neg k2] at hR
  by_cases k3 : k = 3
  · rw [if_pos k3] at hR
    subst k3
    by_cases he : bs m = []
    · rw [if_pos he] at hR; subst hR; exact shown3 t m ht hm w he
    · rw [if_neg he] at hR; subst hR; exact shown3m t m ht hm w he
  rw [if_neg k3] at hR
  by_cases k4 : k = 4
  · rw [if_pos k4] at hR
    subst k4
    by_cases he : bs m = []
    · rw [if_pos he] at hR; subst hR; exact shown4 t m ht hm w he
    · rw [if_neg he] at hR; subst hR; exact shown4m t m ht hm w he
  rw [if_neg k4] at hR
  by_cases k5 : k = 5
  · rw [if_pos k5] at hR; subst k5 hR; exact shown5 t m ht hm w
  rw [if_neg k5] at hR
  subst hR
  exact shown_word t m k ht hm w k2 k3 k4 k5
end Go.Proofs.YtpkggobhhieeoaaDoor
namespace Go.Proofs.YtpkggobhhieeoaaDoor
open Go.RowKit
theorem right_all : ∀ (l : List Pc) (w : Bool) (i x : Nat), rightG w i l = (x, 0) → ∀ p ∈ l, plainP p = true
  | [], _, _, _, _, p, hp => by cases hp
  | q :: r, w, i, x, h, p, hp => by
    rw [rightG] at h
    split at h
    · rename_i hc
      rcases List.mem_cons.1 hp with rfl | hp
      · exact hc.1
      · exact right_all r _ _ x h p hp
    · simp at h
theorem right_plain {l : List Pc} (h : (rightP l).2 = 0) : l.length ≤ 64 ∧ ∀ p ∈ l, plainP p = true := by
  unfold rightP at h
  split at h
  · simp at h
  · rename_i h1
    exact ⟨by omega, right_all l false 0 (rightG false 0 l).1 (Prod.ext rfl h)⟩
theorem plain_len {p : Pc} (h : plainP p = true) : p.text.length + p.mark.length ≤ 4096 := by
  unfold plainP at h
  rw [Bool.and_eq_true] at h
  exact of_decide_eq_true h.1
theorem shown_len {p : Pc} (h : p.text.length + p.mark.length ≤ 4096) : (shownP p).length ≤ 40000 := by
  have h1 := twice_len 123 p.text
  have h2 := twice_len 125 (twiceN 123 p.text)
  have h3 := flat_len p.mark
  unfold shownP bracesN quoteN
  split
  · simp; omega
  · split
    · split
      · simp; omega
      · simp only [List.length_append, List.length_cons, List.length_nil]; omega
    · split
      · split <;> simp <;> omega
      · split
        · simp; omega
        · omega
theorem shown_bytes {p : Pc} (h1 : Bytes p.text) (h2 : Bytes p.mark) : Bytes (shownP p) := by
  have hc : ∀ l : List Nat, (∀ x ∈ l, x < 256) → Bytes l := fun l h => h
  have hq := quote_bytes h2
  have hb : Bytes (bracesN p.text) := twice_bytes (twice_bytes h1)
  have c1 : ∀ l : List Nat, (l.all fun x => decide (x < 256)) = true → Bytes l := fun l h x hx => of_decide_eq_true (List.all_eq_true.1 h x hx)
  unfold shownP
  split
  · exact bytes_app (bytes_app (c1 _ rfl) h1) (c1 _ rfl)
  · split
    · split
      · exact bytes_app (bytes_app (c1 _ rfl) h1) (c1 _ rfl)
      · exact bytes_app (bytes_app (bytes_app (bytes_app (c1 _ rfl) h1) (c1 _ rfl)) hq) (c1 _ rfl)
    · split
      · split
        · exact bytes_app (bytes_app (c1 _ rfl) h1) (c1 _ rfl)
        · exact bytes_app (bytes_app (bytes_app (bytes_app (c1 _ rfl) h1) (c1 _ rfl)) h2) (c1 _ rfl)
      · split
        · exact bytes_app (bytes_app (c1 _ rfl) h1) (c1 _ rfl)
        · exact hb
theorem flat_take {l : List Pc} {k : Nat} {p : Pc} (h : l[k]? = some p) : (l.take (k + 1)).flatMap shownP = (l.take k).flatMap shownP ++ shownP p := by
  rw [List.take_add_one, h, List.flatMap_append]
  simp
theorem print_row {l : List Cell} {v : Value} (w w0 : World) (hs : SlR w0 w0.heap.size 3 Cell.Is v l) (h47 : ∀ c ∈ l, c.lt47) (hm : Marks w0) (hg : Signs w0) (hw : Below w0.heap.size w0 w) :
    Calls Tryd.prog 11 #[v] w fun e w' => e = .returned (.tuple #[.string (txt (printP (l.map Cell.pc)).1), .int .i64 ((printP (l.map Cell.pc)).2 : Int)]) ∧ Below w.heap.size w w' := by
  have RR := zH (right_row w w0 hs h47 hm hg hw)
  obtain ⟨a, c, rfl⟩ : ∃ a c, v = .slice a l.length c := by obtain ⟨a, c, h, _⟩ := hs.form; exact ⟨a, c, h⟩
  obtain ⟨n, hn⟩ : ∃ n, l.length = n := ⟨_, rfl⟩
  rw [hn] at hs RR ⊢
  obtain ⟨lp, hlp⟩ : ∃ lp, l.map Cell.pc = lp := ⟨_, rfl⟩
  have hln : lp.length = n := by rw [← hlp, List.length_map, hn]
  rw [hlp] at RR ⊢
  obtain ⟨⟨at_, er⟩, hR⟩ : ∃ R, rightP lp = R := ⟨_, rfl⟩
  obtain ⟨R, hRP⟩ : ∃ R, printP lp = R := ⟨_, rfl⟩
  rw [hR] at RR
  rw [hRP]
  have hpr : R = if er ≠ 0 then ([], er) else if 4096 < (lp.flatMap shownP).length then ([], 3) else (lp.flatMap shownP, 0) := by rw [← hRP]; unfold printP; rw [hR]
  have Hs := zH hs
  have Hn := zH hn
  have Hln := zH hln
  have Hlp := zH hlp
  have HwB := zH hw
  by_cases he : er = 0
  rotate_left
  · have hv : R = ([], er) := by rw [hpr, if_pos he]
    subst hv
    have e1 : ((er : Int) != 0) = true := by simp; omega
    clear hs hn hln hlp h47 hm hg hw hR hRP hpr
    go_enter Tryd.func11, Tryd.ntmps11
    go_wp2_with (go_at_call 12; (with_reducible refine RR.out.mono ?_); rintro e w1 ⟨rfl, h1⟩; have B1 := zH h1; clear h1)
    go_ret2
    exact ⟨rfl, B1.out⟩
  · subst he
    rw [if_neg (by simp)] at hpr
    have hpl := right_plain (l := lp) (by rw [hR])
    rw [hln] at hpl
    have HPL := zH hpl.2
    have n64 : n ≤ 64 := hpl.1
    have HPR := zH hpr
    clear hs hn hln hlp h47 hm hg hw hR hRP hpr hpl
    go_enter Tryd.func11, Tryd.ntmps11
    go_upto_region 5 with (go_at_call 12; (with_reducible refine RR.out.mono ?_); rintro e w1 ⟨rfl, h1⟩; have B1 := zH h1; clear h1)
    have T2 : Hid (BuiltSt (w1.alloc (.cells #[.pointer none, .slice none 0 0] 53)) w1.heap.size w1.heap.size []) := zH (BuiltSt.new w1)
    have B2 : Hid (Below w.heap.size w (w1.alloc (.cells #[.pointer none, .slice none 0 0] 53))) := zH (B1.out.alloc B1.out.size _)
    have hL : w1.heap.size ≤ (w1.alloc (.cells #[.pointer none, .slice none 0 0] 53)).heap.size := by simp
    have hB1 : w.heap.size ≤ w1.heap.size := B1.out.size
    obtain ⟨b, hb⟩ : ∃ b, w1.heap.size = b := ⟨_, rfl⟩
    rw [hb] at T2 hL hB1 ⊢
    generalize World.alloc w1 _ = w2 at *
    clear hb
    go_wp2_with fail
    go_loopg [2, 3, 8, 19] n (fun gk v2 v3 _ v19 wr => ∃ k : Nat, v2 = .string ⟨#[]⟩ ∧ v3 = .int .i64 0 ∧ v19 = .int .i64 (k : Int) ∧ k ≤ n ∧ n = gk + k ∧ ((lp.take k).flatMap shownP).length ≤ 4096 ∧ Hid (BuiltSt wr b b ((lp.take k).flatMap shownP)) ∧ Hid (Below w.heap.size w wr) ∧ b ≤ wr.heap.size)
    case atStart => exact ⟨0, rfl, rfl, rfl, Nat.zero_le _, by omega, by simp, T2, B2, hL⟩
    case round =>
      clear T2 B2 hL
      obtain ⟨k, rfl, rfl, rfl, hk, hgn, hlen, hT, hB, hbw⟩ := hrel
      have GN := zH hgn
      clear hgn
      have k0 : (0 : Int) ≤ (k : Int) := Int.natCast_nonneg _
      have hbz := hB.out.size
      by_cases hlt : k < n
      · have d3 : decide (k < n) = true := by simpa using hlt
        obtain ⟨c, hc⟩ := get_some Hn.out hlt
        have hpc : lp[k]? = some c.pc := by rw [← Hlp.out, List.getElem?_map, hc]; rfl
        have hw1 := HwB.out.trans (hB.out.mono HwB.out.size)
        obtain ⟨bb, off, x, rfl, hbB, hxl, ⟨rfl, hcok⟩, hx⟩ := (Hs.out.below hw1).at_ hc
        have x0 := hx 0 _ rfl
        have x1 := hx 1 _ rfl
        have x2 := hx 2 _ rfl
        rw [Nat.add_zero] at x0
        have hpl := HPL.out c.pc (List.mem_iff_getElem?.2 ⟨k, hpc⟩)
        have hsl := plain_len hpl
        have hs1 : c.text.size + c.mark.size ≤ 4096 := by have h := hsl; simp only [Cell.pc, bs_len] at h; exact h
        have hsh := shown_len hsl
        have hshb : Bytes (shownP c.pc) := shown_bytes (bs_bytes _) (bs_bytes _)
        have hft := flat_take hpc
        have HFT := zH hft
        have T3 := zH (hT.out.keep ((Below.refl wr.heap.size wr).alloc zL (.cells #[.int .i64 c.kind, .string c.text, .string c.mark] 30)))
        have B3 : Hid (Below w.heap.size w (wr.alloc (.cells #[.int .i64 c.kind, .string c.text, .string c.mark] 30))) := zH (hB.out.alloc hB.out.size _)
        have hz3 : b ≤ (wr.alloc (.cells #[.int .i64 c.kind, .string c.text, .string c.mark] 30)).heap.size := by simp; omega
        have SHC := zH (fun W => shown_any c (by omega) (by omega) W)
        have hlw : ((lp.take k).flatMap shownP).length + (txt (shownP c.pc)).size ≤ 140737488355328 := by rw [txt_size]; omega
        have HBY := zH hshb
        have HMO : Hid (((lp.take (k + 1)).flatMap shownP).length ≤ (lp.flatMap shownP).length) := zH (by
          conv => rhs; rw [← List.take_append_drop (k + 1) lp, List.flatMap_append, List.length_append]
          omega)
        obtain ⟨len2, hl2⟩ : ∃ z, ((lp.take (k + 1)).flatMap shownP).length = z := ⟨_, rfl⟩
        have HL2 := zH hl2
        have W3 := zH (fun W (hT : BuiltSt W b b ((lp.take k).flatMap shownP)) (hz : b ≤ W.heap.size) => (show Calls Tryd.prog 22 #[.pointer (some ⟨b, 0, none⟩), .string (txt (shownP c.pc))] W fun e w' => e = .returned (.tuple #[.int .i64 (txt (shownP c.pc)).size, .nilIface]) ∧ BuiltSt w' b b ((lp.take (k + 1)).flatMap shownP) ∧ Below b W w' by
          refine (write_text (txt (shownP c.pc)) hT hlw hz).mono fun e w' h => ⟨h.1, ?_, h.2.2.1⟩
          have h2 := h.2.1
          rw [bs_txt HBY.out, ← HFT.out] at h2
          exact h2))
        have LN2 := zH (fun W (hT : BuiltSt W b b ((lp.take (k + 1)).flatMap shownP)) => (show Calls Tryd.prog 24 #[.pointer (some ⟨b, 0, none⟩)] W fun e w' => e = .returned (.int .i64 (len2 : Int)) ∧ w' = W by have := built_len hT; rw [HL2.out] at this; exact this))
        clear hx hw1 hpl hpc hc hsl hs1 hsh hshb hft hlw hl2
        by_cases hbig : 4096 < len2
        · have dd : decide ((4096 : Int) < (len2 : Int)) = true := by simp; omega
          have dd2 : (4096 : Int) < (len2 : Int) := by omega
          have hv : R = ([], 3) := by rw [HPR.out, if_pos (by have := HMO.out; have := HL2.out; omega)]
          subst hv
          go_wp2_with (first
            | (go_at_call 23; (refine (SHC.out _).mono ?_); rintro e w4 ⟨rfl, h1⟩; have T4 := zH (T3.out.keep h1); have B4 := zH (B3.out.trans (h1.mono B3.out.size)); have hz4 : b ≤ w4.heap.size := Nat.le_trans hz3 h1.size; clear h1)
            | (go_at_call 22; (refine (W3.out _ T4.out hz4).mono ?_); rintro e w5 ⟨rfl, h1, h2⟩; have T5 := zH h1; have B5 := zH (B4.out.trans (h2.mono hB1)); have hz5 : b ≤ w5.heap.size := Nat.le_trans hz4 h2.size; clear h1 h2)
            | (go_at_call 24; (with_reducible refine (LN2.out _ T5.out).mono ?_); rintro e w' ⟨rfl, h0⟩; have h0 := h0.symm; subst h0))
          go_ret2
          exact ⟨rfl, B5.out⟩
        · have dd : decide ((4096 : Int) < (len2 : Int)) = false := by simp; omega
          have dd2 : ¬ (4096 : Int) < (len2 : Int) := by omega
          go_wp2_with (first
            | (go_at_call 23; (refine (SHC.out _).mono ?_); rintro e w4 ⟨rfl, h1⟩; have T4 := zH (T3.out.keep h1); have B4 := zH (B3.out.trans (h1.mono B3.out.size)); have hz4 : b ≤ w4.heap.size := Nat.le_trans hz3 h1.size; clear h1)
            | (go_at_call 22; (refine (W3.out _ T4.out hz4).mono ?_); rintro e w5 ⟨rfl, h1, h2⟩; have T5 := zH h1; have B5 := zH (B4.out.trans (h2.mono hB1)); have hz5 : b ≤ w5.heap.size := Nat.le_trans hz4 h2.size; clear h1 h2)
            | (go_at_call 24; (with_reducible refine (LN2.out _ T5.out).mono ?_); rintro e w' ⟨rfl, h0⟩; have h0 := h0.symm; subst h0))
          go_roundg (gk - 1)
          case measure => have := GN.out; omega
          case rel => exact ⟨k + 1, rfl, rfl, by go_num, by omega, by have := GN.out; omega, by rw [HL2.out]; omega, T5, B5, hz5⟩
      · have d3 : decide (k < n) = false := by simpa using hlt
        have hkn : lp.take k = lp := List.take_of_length_le (by rw [Hln.out]; omega)
        rw [hkn] at hT hlen
        have hv : R = (lp.flatMap shownP, 0) := by rw [HPR.out, if_neg (by omega)]
        subst hv
        go_wp2_with (go_at_call 25; (refine (built_text hT.out hbw).mono ?_); rintro e w3 ⟨rfl, h1⟩; have B3 := zH (hB.out.trans (h1.mono hB1)); clear h1)
        go_ret2
        exact ⟨rfl, B3.out⟩
end Go.Proofs.YtpkggobhhieeoaaDoor
namespace Go.Proofs.YtpkggobhhieeoaaDoor
open Go.RowKit
def awA : List Pc := [⟨1, [108, 101, 116, 32], []⟩, ⟨2, [110, 97, 109, 101], []⟩, ⟨1, [32, 61, 32], []⟩, ⟨3, [118, 97, 108, 117, 101], []⟩, ⟨1, [59, 32, 123], []⟩]
def awB : List Pc := [⟨3, [97, 114, 103, 115], [44, 32]⟩, ⟨4, [116, 111], [110, 97, 109, 101]⟩, ⟨5, [34, 125, 34, 32, 43, 32, 115, 101, 108, 102, 46, 97], []⟩]
theorem aw_1 : rowN [108, 101, 116, 32, 123, 46, 110, 97, 109, 101, 125, 32, 61, 32, 123, 35, 118, 97, 108, 117, 101, 125, 59, 32, 123, 123] = (awA, 0, 0) := by decide +kernel
theorem aw_2 : rowN [123, 35, 97, 114, 103, 115, 32, 34, 44, 32, 34, 125, 123, 45, 62, 116, 111, 46, 110, 97, 109, 101, 125, 123, 61, 34, 125, 34, 32, 43, 32, 115, 101, 108, 102, 46, 97, 125] = (awB, 0, 0) := by decide +kernel
theorem aw_3 : rowN [123, 61, 49, 32, 50, 125] = ([], 4, 200) := by decide +kernel
theorem aw_4 : rowN [97, 125, 98] = ([], 2, 200) := by decide +kernel
theorem aw_5 : printP [⟨1, [97], []⟩, ⟨1, [98], []⟩] = ([], 200) := by decide +kernel
theorem SlR.new2 {α : Type} {w : World} {size g : Nat} {e : TypeId} {R : List Value → α → Prop} {x x' : List Value} {y y' : α} (hg : g = w.heap.size) (hs : 0 < size) (hl : x.length = size) (hl' : x'.length = size) (hR : R x y) (hR' : R x' y') : SlR (w.alloc (.cells (x ++ x').toArray e)) (w.heap.size + 1) size R (.slice (some ⟨g, 0, none⟩) 2 2) [y, y'] := by
  subst hg
  have h2 : (x ++ x').length = 2 * size := by rw [List.length_append, hl, hl']; omega
  have h : Own1 (w.alloc (.cells (x ++ x').toArray e)) 0 e size R (.slice (some ⟨w.heap.size, 0, none⟩) 2 2) [y, y'] := ⟨x ++ x', ⟨h2, .inr ⟨w.heap.size, 2, (x ++ x').toArray, rfl, Nat.zero_le _, heap_alloc_new w _, Nat.le_refl _, by decide, h2, List.take_of_length_le (Nat.le_of_eq h2)⟩⟩, (FlatR.one hl hR).app (FlatR.one hl' hR')⟩
  have h := h.read hs
  rwa [World.size_alloc] at h
theorem aw_read1 {W : World} {B : Nat} {a : Option Addr} {c : Nat} (h : SlR W B 3 Pc.Is (.slice a 5 c) awA) : ∃ b off, a = some ⟨b, off, none⟩ ∧ W.cell? ⟨b, off + 3, none⟩ = some (.int .i64 2) ∧ W.cell? ⟨b, off + 4, none⟩ = some (.string ⟨#[110, 97, 109, 101]⟩) ∧ W.cell? ⟨b, off + 5, none⟩ = some (.string ⟨#[]⟩) ∧ W.cell? ⟨b, off + 12, none⟩ = some (.int .i64 1) ∧ W.cell? ⟨b, off + 13, none⟩ = some (.string ⟨#[59, 32, 123]⟩) ∧ W.cell? ⟨b, off + 14, none⟩ = some (.string ⟨#[]⟩) := by
  obtain ⟨b, off, x, rfl, hb, hx, ⟨rfl, _⟩, hc⟩ := h.at_ (show awA[0]? = some (⟨1, [108, 101, 116, 32], []⟩ : Pc) from rfl)
  obtain ⟨b1, off1, x1, ha1, _, _, ⟨rfl, _⟩, q1⟩ := h.at_ (show awA[1]? = some (⟨2, [110, 97, 109, 101], []⟩ : Pc) from rfl)
  injection ha1 with ha1; injection ha1 with e1 e2; subst e1 e2
  obtain ⟨b4, off4, x4, ha4, _, _, ⟨rfl, _⟩, q4⟩ := h.at_ (show awA[4]? = some (⟨1, [59, 32, 123], []⟩ : Pc) from rfl)
  injection ha4 with ha4; injection ha4 with e1 e2; subst e1 e2
  exact ⟨b, off, rfl, q1 0 _ rfl, q1 1 _ rfl, q1 2 _ rfl, q4 0 _ rfl, q4 1 _ rfl, q4 2 _ rfl⟩
theorem aw_read2 {W : World} {B : Nat} {a : Option Addr} {c : Nat} (h : SlR W B 3 Pc.Is (.slice a 3 c) awB) : ∃ b off, a = some ⟨b, off, none⟩ ∧ W.cell? ⟨b, off + 2, none⟩ = some (.string ⟨#[44, 32]⟩) ∧ W.cell? ⟨b, off + 5, none⟩ = some (.string ⟨#[110, 97, 109, 101]⟩) ∧ W.cell? ⟨b, off + 7, none⟩ = some (.string ⟨#[34, 125, 34, 32, 43, 32, 115, 101, 108, 102, 46, 97]⟩) := by
  obtain ⟨b, off, x, rfl, hb, hx, ⟨rfl, _⟩, hc⟩ := h.at_ (show awB[0]? = some (⟨3, [97, 114, 103, 115], [44, 32]⟩ : Pc) from rfl)
  have q0 := hc
  obtain ⟨b1, off1, x1, ha1, _, _, ⟨rfl, _⟩, q1⟩ := h.at_ (show awB[1]? = some (⟨4, [116, 111], [110, 97, 109, 101]⟩ : Pc) from rfl)
  injection ha1 with ha1; injection ha1 with e1 e2; subst e1 e2
  obtain ⟨b2, off2, x2, ha2, _, _, ⟨rfl, _⟩, q2⟩ := h.at_ (show awB[2]? = some (⟨5, [34, 125, 34, 32, 43, 32, 115, 101, 108, 102, 46, 97], []⟩ : Pc) from rfl)
  injection ha2 with ha2; injection ha2 with e1 e2; subst e1 e2
  exact ⟨b, off, rfl, q0 2 _ rfl, q1 2 _ rfl, q2 1 _ rfl⟩
theorem aw_lt : ∀ c ∈ ([⟨1, ⟨#[97]⟩, ⟨#[]⟩⟩, ⟨1, ⟨#[98]⟩, ⟨#[]⟩⟩] : List Cell), c.lt47 := by unfold Cell.lt47; decide
theorem awake_any (w : World) (hm : Marks w) (hg : Signs w) : Calls Tryd.prog 10 #[] w fun e w' => e = .returned (.bool true) ∧ Below w.heap.size w w' := by
  have h4w : 4 < w.heap.size := by
    obtain ⟨t, fr, h⟩ := signs_block hg
    rcases Nat.lt_or_ge 4 w.heap.size with h0 | h0
    · exact h0
    · rw [Array.getElem?_eq_none h0] at h; cases h
  have H1 := zH (fun W (hW : Below w.heap.size w W) => (show Calls Tryd.prog 7 #[.string ⟨#[108, 101, 116, 32, 123, 46, 110, 97, 109, 101, 125, 32, 61, 32, 123, 35, 118, 97, 108, 117, 101, 125, 59, 32, 123, 123]⟩] W (RowIs W (awA, 0, 0)) by
    have h := row_any (⟨#[108, 101, 116, 32, 123, 46, 110, 97, 109, 101, 125, 32, 61, 32, 123, 35, 118, 97, 108, 117, 101, 125, 59, 32, 123, 123]⟩ : ByteArray) (by decide) W (hm.below hW) (hg.of_block (hW.block 4 h4w))
    rw [show bs (⟨#[108, 101, 116, 32, 123, 46, 110, 97, 109, 101, 125, 32, 61, 32, 123, 35, 118, 97, 108, 117, 101, 125, 59, 32, 123, 123]⟩ : ByteArray) = [108, 101, 116, 32, 123, 46, 110, 97, 109, 101, 125, 32, 61, 32, 123, 35, 118, 97, 108, 117, 101, 125, 59, 32, 123, 123] by decide, aw_1] at h
    exact h))
  have H2 := zH (fun W (hW : Below w.heap.size w W) => (show Calls Tryd.prog 7 #[.string ⟨#[123, 35, 97, 114, 103, 115, 32, 34, 44, 32, 34, 125, 123, 45, 62, 116, 111, 46, 110, 97, 109, 101, 125, 123, 61, 34, 125, 34, 32, 43, 32, 115, 101, 108, 102, 46, 97, 125]⟩] W (RowIs W (awB, 0, 0)) by
    have h := row_any (⟨#[123, 35, 97, 114, 103, 115, 32, 34, 44, 32, 34, 125, 123, 45, 62, 116, 111, 46, 110, 97, 109, 101, 125, 123, 61, 34, 125, 34, 32, 43, 32, 115, 101, 108, 102, 46, 97, 125]⟩ : ByteArray) (by decide) W (hm.below hW) (hg.of_block (hW.block 4 h4w))
    rw [show bs (⟨#[123, 35, 97, 114, 103, 115, 32, 34, 44, 32, 34, 125, 123, 45, 62, 116, 111, 46, 110, 97, 109, 101, 125, 123, 61, 34, 125, 34, 32, 43, 32, 115, 101, 108, 102, 46, 97, 125]⟩ : ByteArray) = [123, 35, 97, 114, 103, 115, 32, 34, 44, 32, 34, 125, 123, 45, 62, 116, 111, 46, 110, 97, 109, 101, 125, 123, 61, 34, 125, 34, 32, 43, 32, 115, 101, 108, 102, 46, 97, 125] by decide, aw_2] at h
    exact h))
  have H3 := zH (fun W (hW : Below w.heap.size w W) => (show Calls Tryd.prog 7 #[.string ⟨#[123, 61, 49, 32, 50, 125]⟩] W (RowIs W ([], 4, 200)) by
    have h := row_any (⟨#[123, 61, 49, 32, 50, 125]⟩ : ByteArray) (by decide) W (hm.below hW) (hg.of_block (hW.block 4 h4w))
    rw [show bs (⟨#[123, 61, 49, 32, 50, 125]⟩ : ByteArray) = [123, 61, 49, 32, 50, 125] by decide, aw_3] at h
    exact h))
  have H4 := zH (fun W (hW : Below w.heap.size w W) => (show Calls Tryd.prog 7 #[.string ⟨#[97, 125, 98]⟩] W (RowIs W ([], 2, 200)) by
    have h := row_any (⟨#[97, 125, 98]⟩ : ByteArray) (by decide) W (hm.below hW) (hg.of_block (hW.block 4 h4w))
    rw [show bs (⟨#[97, 125, 98]⟩ : ByteArray) = [97, 125, 98] by decide, aw_4] at h
    exact h))
  have H5 := zH (fun W (hW : Below w.heap.size w W) => (show Calls Tryd.prog 11 #[.slice (some ⟨W.heap.size, 0, none⟩) 2 2] (W.alloc (.cells #[.int .i64 1, .string ⟨#[97]⟩, .string ⟨#[]⟩, .int .i64 1, .string ⟨#[98]⟩, .string ⟨#[]⟩] 30)) fun e w' => e = .returned (.tuple #[.string ⟨#[]⟩, .int .i64 200]) ∧ Below (W.heap.size + 1) (W.alloc (.cells #[.int .i64 1, .string ⟨#[97]⟩, .string ⟨#[]⟩, .int .i64 1, .string ⟨#[98]⟩, .string ⟨#[]⟩] 30)) w' by
    have hs := SlR.new2 (w := W) (g := W.heap.size) (size := 3) (e := 30) (R := Cell.Is) (x := [.int .i64 1, .string ⟨#[97]⟩, .string ⟨#[]⟩]) (x' := [.int .i64 1, .string ⟨#[98]⟩, .string ⟨#[]⟩]) (y := ⟨1, ⟨#[97]⟩, ⟨#[]⟩⟩) (y' := ⟨1, ⟨#[98]⟩, ⟨#[]⟩⟩) rfl (by decide) rfl rfl ⟨rfl, by decide, by decide, by decide⟩ ⟨rfl, by decide, by decide, by decide⟩
    have hB := hW.alloc hW.size (.cells #[.int .i64 1, .string ⟨#[97]⟩, .string ⟨#[]⟩, .int .i64 1, .string ⟨#[98]⟩, .string ⟨#[]⟩] 30)
    have h := print_row (l := [⟨1, ⟨#[97]⟩, ⟨#[]⟩⟩, ⟨1, ⟨#[98]⟩, ⟨#[]⟩⟩]) (v := .slice (some ⟨W.heap.size, 0, none⟩) 2 2) (W.alloc (.cells #[.int .i64 1, .string ⟨#[97]⟩, .string ⟨#[]⟩, .int .i64 1, .string ⟨#[98]⟩, .string ⟨#[]⟩] 30)) (W.alloc (.cells #[.int .i64 1, .string ⟨#[97]⟩, .string ⟨#[]⟩, .int .i64 1, .string ⟨#[98]⟩, .string ⟨#[]⟩] 30)) (by rw [World.size_alloc]; exact hs) aw_lt (hm.below hB) (hg.of_block (hB.block 4 h4w)) zB
    have e : ([⟨1, ⟨#[97]⟩, ⟨#[]⟩⟩, ⟨1, ⟨#[98]⟩, ⟨#[]⟩⟩] : List Cell).map Cell.pc = [⟨1, [97], []⟩, ⟨1, [98], []⟩] := by decide
    rw [e, aw_5, World.size_alloc] at h
    exact h))
  clear hm hg h4w
  have tok1 : True := trivial
  have tok2 : True := trivial
  have tok3 : True := trivial
  go_enter Tryd.func10, Tryd.ntmps10
  go_wp2_with (first
    | (have _t := tok1; clear tok1 _t; go_at_call 7; (with_reducible refine (H1.out _ (Below.refl w.heap.size w)).mono ?_); rintro e w1 ⟨v1, rfl, h1, h2⟩; obtain ⟨a1, c1, hv1⟩ := h1.form; subst hv1; have O1 := zH h1; have B1 := zH ((Below.refl w.heap.size w).trans (h2.mono (Below.refl w.heap.size w).size)); clear h1 h2; show _)
    | (have _t := tok2; clear tok2 _t; go_at_call 7; (with_reducible refine (H2.out _ (B1.out)).mono ?_); rintro e w2 ⟨v2, rfl, h1, h2⟩; obtain ⟨a2, c2, hv2⟩ := h1.form; subst hv2; have O2 := zH h1; have B2 := zH ((B1.out).trans (h2.mono (B1.out).size)); have O12 := zH (O1.out.below h2 zL); clear h1 h2; show _)
    | (have _t := tok3; clear tok3 _t; go_at_call 7; (with_reducible refine (H3.out _ (B2.out)).mono ?_); rintro e w3 ⟨v3, rfl, h1, h2⟩; obtain ⟨a3, c3, hv3⟩ := h1.form; subst hv3; have O3 := zH h1; have B3 := zH ((B2.out).trans (h2.mono (B2.out).size)); have O13 := zH (O12.out.below h2 zL); have O23 := zH (O2.out.below h2 zL); clear h1 h2; show _)
    | (go_at_call 7; (with_reducible refine (H4.out _ (B3.out)).mono ?_); rintro e w4 ⟨v4, rfl, h1, h2⟩; obtain ⟨a4, c4, hv4⟩ := h1.form; subst hv4; have O4 := zH h1; have B4 := zH ((B3.out).trans (h2.mono (B3.out).size)); have O14 := zH (O13.out.below h2 zL); have O24 := zH (O23.out.below h2 zL); clear h1 h2; show _)
    | (go_at_call 11; (refine (H5.out w4 B4.out).mono ?_); rintro e w5 ⟨rfl, h1⟩; have B5 := zH ((B4.out.alloc B4.out.size _).trans (h1.mono (by have := B4.out.size; omega))); have b45 := ((Below.refl w4.heap.size w4).alloc zL _).trans (h1.mono (by omega)); obtain ⟨b1, off1, hb1, y10, y11, y12, y40, y41, y42⟩ := aw_read1 ((O14.out.below b45 zL).read (by decide)); subst hb1; obtain ⟨b2, off2, hb2, z02, z12, z21⟩ := aw_read2 ((O24.out.below b45 zL).read (by decide)); subst hb2; clear h1 b45 O1 O2 O3 O4 O12 O13 O14 O23 O24; show _))
  go_ret
  exact ⟨rfl, B5.out⟩
end Go.Proofs.YtpkggobhhieeoaaDoor
namespace Go.Proofs.YtpkggobhhieeoaaDoor
open Go.RowKit
theorem right_ne {nm : List Nat} (h : rightN nm = true) : nm ≠ [] := fun e => by rw [e] at h; cases h
theorem braces_cons (c : Nat) (w : List Nat) : bracesN (c :: w) = (if c = 123 ∨ c = 125 then [c, c] else [c]) ++ bracesN w := by
  unfold bracesN
  have h1 : twiceN 123 (c :: w) = (if c = 123 then [c, c] else [c]) ++ twiceN 123 w := rfl
  rw [h1, twice_app]
  congr 1
  by_cases h3 : c = 123
  · subst h3; rfl
  · by_cases h5 : c = 125
    · subst h5; rfl
    · rw [if_neg h3, if_neg (by omega)]
      show (if c = 125 then [c, c] else [c]) ++ [] = [c]
      rw [if_neg h5]
      rfl
end Go.Proofs.YtpkggobhhieeoaaDoor
namespace Go.Proofs.YtpkggobhhieeoaaDoor
open Go.RowKit
theorem shown_2 {x m : List Nat} : shownP ⟨2, x, m⟩ = 123 :: 46 :: (x ++ [125]) := rfl
theorem shown_3 {x : List Nat} : shownP ⟨3, x, []⟩ = 123 :: 35 :: (x ++ [125]) := rfl
theorem shown_3m {x m : List Nat} (h : m ≠ []) : shownP ⟨3, x, m⟩ = 123 :: 35 :: (x ++ 32 :: (quoteN m ++ [125])) := by
  show (if m = [] then _ else [123, 35] ++ x ++ [32] ++ quoteN m ++ [125]) = _
  rw [if_neg h]
  simp
theorem shown_4 {x : List Nat} : shownP ⟨4, x, []⟩ = 123 :: 45 :: 62 :: (x ++ [125]) := rfl
theorem shown_4m {x m : List Nat} (h : m ≠ []) : shownP ⟨4, x, m⟩ = 123 :: 45 :: 62 :: (x ++ 46 :: (m ++ [125])) := by
  show (if m = [] then _ else [123, 45, 62] ++ x ++ [46] ++ m ++ [125]) = _
  rw [if_neg h]
  simp
theorem shown_5 {x m : List Nat} : shownP ⟨5, x, m⟩ = 123 :: 61 :: (x ++ [125]) := rfl
end Go.Proofs.YtpkggobhhieeoaaDoor
