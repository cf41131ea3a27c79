/- Chapter 09, outright: the law KindsNames, walked. -/
import Derived.Test.YtidkbodmiegbkaaGreatDoorKzF
import Derived.Test.YtidkbodmiegbkaaGreatDoorKzG
import Derived.Test.YtidkbodmiegbkaaGreatDoorKzH
import Derived.Deep.QuietTactic
namespace Go.Proofs.YtidkbodmiegbkaaGreatDoor
set_option linter.unusedSimpArgs false
set_option linter.unusedVariables false
open Go.RowKit

theorem right_vals {l : List ND} (h : rightE l ≠ 0) : rightE l = 4 ∨ rightE l = 80 := by
  unfold rightE at h ⊢
  split
  · exact .inl rfl
  · split
    · exact .inr rfl
    · split
      · exact .inr rfl
      · split
        · exact .inl rfl
        · next h1 h2 h3 h4 => simp [*] at h
set_option maxRecDepth 100000 in
set_option maxHeartbeats 8000000 in
theorem names_bad {l : List ND} {v : Value} (w : World) (hs : SlR w w.heap.size 4 (ND.Is w w.heap.size) v l) (hv : AllV w) (hok : ∀ d ∈ l, NdOk d) (hr : rightE l ≠ 0) (na nb : List Nat) : Calls Tryz.prog 4 #[.agg #[v], .string (txt na), .string (txt nb)] w fun e w' => e = .returned (.bool true) ∧ Below w.heap.size w w' := by
  obtain ⟨a, c, rfl⟩ : ∃ a c, v = .slice a (l).length c := by obtain ⟨a, c, h, _⟩ := hs.form; exact ⟨a, c, h⟩
  obtain ⟨n, hn⟩ : ∃ n, (l).length = n := ⟨_, rfl⟩
  rw [hn] at hs ⊢
  have hb : Below w.heap.size w (w.alloc (.cells #[.slice a n c] 24)) := (Below.refl _ _).alloc (Nat.le_refl _) _
  have AW := Lib.hid (awake_any (w.alloc (.cells #[.slice a n c] 24)) (hv.below hb))
  have KE : Hid (Blk (w.alloc (.cells #[.slice a n c] 24)) w.heap.size 24 #[.slice a n c]) := Lib.hid (Blk.new _ _ _)
  have HB := Lib.hid hb
  have HN := Lib.hid hn
  have OB := Lib.hid (fun W (hW : Below w.heap.size w W) => each_bad W w hs hok hv.marks hv.pow hv.takes hW hr)
  have FB := Lib.hid (fun W (hW : Below w.heap.size w W) => free_bad W w hs hok hv.marks hv.pow hv.takes hW hr)
  have hv4 := right_vals hr
  obtain ⟨r, hrr⟩ : ∃ r, rightE l = r := ⟨_, rfl⟩
  rw [hrr] at OB FB hv4
  clear hs hok hv hn hb hrr hr
  rcases hv4 with rfl | rfl
  all_goals
    go_enter Tryz.func4, Tryz.ntmps4
    go_wp2_with (first
      | (go_at_call 7; go_must (refine AW.out.mono ?_); rintro e w1 ⟨rfl, b1⟩
         go_must (have B1 := Lib.hid (HB.out.trans (b1.mono HB.out.size)))
         go_must (have K1 := Lib.hid (KE.out.below b1 KE.out.lt))
         have e1 : w1.cell? ⟨w.heap.size, 0, none⟩ = some (.slice a n c) := K1.out.cell rfl
         have l1 : w.heap.size < w1.heap.size := K1.out.lt
         clear b1)
      | (go_at_call 12; go_must (refine (OB.out w1 B1.out).mono ?_); rintro e w2 ⟨rfl, b2⟩
         go_must (have B2 := Lib.hid (B1.out.trans (b2.mono B1.out.size)))
         have e2 : w2.cell? ⟨w.heap.size, 0, none⟩ = some (.slice a n c) := (K1.out.below b2 K1.out.lt).cell rfl
         have l2 : w.heap.size < w2.heap.size := Nat.lt_of_lt_of_le l1 b2.size
         clear b2)
      | (go_at_call 13; go_must (refine (FB.out w2 B2.out).mono ?_); rintro e w3 ⟨rfl, b3⟩; have B3 := Lib.hid (B2.out.trans (b3.mono B2.out.size)); clear b3)
      | fail)
    go_ret
    exact ⟨rfl, B3.out⟩
/-- is a node's text a variable's name? -/
def varD (d : ND) : Bool := decide (d.kind = 7 ∨ (31 ≤ d.kind ∧ d.kind ≤ 34))
theorem rnD_no {a b : List Nat} {d : ND} (h : varD d = false) : rnD a b d = d := by
  unfold rnD
  rw [if_neg (fun h2 => by unfold varD at h; rw [decide_eq_true h2.1] at h; cases h)]
theorem rnD_other {a b : List Nat} {d : ND} (h : d.text ≠ a) : rnD a b d = d := by
  unfold rnD
  rw [if_neg (fun h2 => h h2.2)]
theorem rnD_yes {a b : List Nat} {d : ND} (h : varD d = true) (h2 : d.text = a) : rnD a b d = ⟨d.kind, b, d.num, d.kids⟩ := by
  unfold rnD
  rw [if_pos ⟨of_decide_eq_true h, h2⟩]
theorem nd_imp {W w : World} {v : Value} {l : List ND} {B : Nat} (h : SlR W B 4 (ND.Is w w.heap.size) v l) (hb : Below w.heap.size w W) (hB : B ≤ W.heap.size) : SlR W W.heap.size 4 (ND.Is W W.heap.size) v l :=
  (h.imp (fun x d hd => ND.more (ND.keep hd hb) hb.size)).more hB
def kindAt (l : List ND) (z : Int) : Int := match l[z.toNat]? with | some d => d.kind | none => 0
theorem errN_eq (l : List ND) (t : Tr) : errN l t = if wR 32 t [] 0 < 0 then 0 else if kindAt l (wR 32 t [] 0) = 7 then 91 else 90 := rfl
/-- what the walk to the copy stands on -/
theorem errs_of {t : Tr} (hd : t.deep ≤ 32) : (errN (ndsT t 0) t = 0 ∧ wR 32 t [] 0 < 0) ∨ (errN (ndsT t 0) t = 90 ∧ ¬ wR 32 t [] 0 < 0) ∨ (errN (ndsT t 0) t = 91 ∧ ¬ wR 32 t [] 0 < 0 ∧ frR 32 t [] [] ≠ []) := by
  rw [errN_eq]
  by_cases hw : wR 32 t [] 0 < 0
  · rw [if_pos hw]
    exact .inl ⟨rfl, hw⟩
  · right
    have hin := wR_in 32 t [] 0
    rw [if_neg hw]
    by_cases hk : kindAt (ndsT t 0) (wR 32 t [] 0) = 7
    · rw [if_pos hk]
      right
      refine ⟨rfl, hw, fun h => ?_⟩
      have hun : Und (ndsT t 0) [] 0 t := Und.root (stands_nds t) (nds_len t 0)
      have hd7 : ∃ d, (ndsT t 0)[(wR 32 t [] 0).toNat]? = some d ∧ d.kind = 7 := by
        unfold kindAt at hk
        cases e : (ndsT t 0)[(wR 32 t [] 0).toNat]? with
        | none => rw [e] at hk; simp at hk
        | some d => rw [e] at hk; exact ⟨d, rfl, hk⟩
      obtain ⟨x, hx⟩ := var_free hd hun (by omega) hd7
      exact (shut_iff.2 h) x hx
    · rw [if_neg hk]
      exact .inl ⟨rfl, hw⟩
/-- with the other name all is the same -/
theorem same_rn {a b : List Nat} {t : Tr} (hn : noB b t) : kindsT (rnT a b t) = kindsT t ∧ atN (rnT a b t) = atN t ∧ errN (ndsT (rnT a b t) 0) (rnT a b t) = errN (ndsT t 0) t := by
  have hw := wR_rn (a := a) (f := 32) (p := 0) (vs := []) hn (fun v h => by simp at h)
  have hk := ksR_rn (a := a) (f := 32) (vs := []) hn (fun v h => by simp at h)
  simp only [List.map_nil] at hw hk
  refine ⟨by unfold kindsT; rw [hw, hk], by unfold atN; rw [hw], ?_⟩
  rw [errN_eq, errN_eq, hw, ← nds_rn]
  have e : kindAt ((ndsT t 0).map (rnD a b)) (wR 32 t [] 0) = kindAt (ndsT t 0) (wR 32 t [] 0) := by
    unfold kindAt
    rw [List.getElem?_map]
    cases (ndsT t 0)[(wR 32 t [] 0).toNat]? with
    | none => rfl
    | some d =>
      simp only [Option.map_some]
      unfold rnD
      split <;> rfl
  rw [e]

theorem NdIs_one {w : World} {B : Nat} : ∀ x d, ND.Is w B x d → ∀ u ∈ x, u.oneCell' = true := by
  intro x d h u hu
  obtain ⟨kv, rfl, hk⟩ := h
  obtain ⟨a, c, rfl, _⟩ := hk.form
  simp at hu
  rcases hu with rfl | rfl | rfl | rfl <;> rfl

set_option maxRecDepth 100000 in
set_option maxHeartbeats 32000000 in
theorem names_tree {t : Tr} {v : Value} (w : World) (hs : SlR w w.heap.size 4 (ND.Is w w.heap.size) v (ndsT t 0)) (hv : AllV w) (hg : t.Good) (hd : t.deep ≤ 32) (hsz : t.size ≤ 256) (na nb : List Nat) (hna : Bytes na) (hnb : Bytes nb ∧ nb.length ≤ 140737488355328) : Calls Tryz.prog 4 #[.agg #[v], .string (txt na), .string (txt nb)] w fun e w' => e = .returned (.bool true) ∧ Below w.heap.size w w' := by
  obtain ⟨a, c, rfl⟩ : ∃ a c, v = .slice a (ndsT t 0).length c := by obtain ⟨a, c, h, _⟩ := hs.form; exact ⟨a, c, h⟩
  obtain ⟨n, hn⟩ : ∃ n, (ndsT t 0).length = n := ⟨_, rfl⟩
  rw [hn] at hs ⊢
  have hb : Below w.heap.size w (w.alloc (.cells #[.slice a n c] 24)) := (Below.refl _ _).alloc (Nat.le_refl _) _
  have AW := Lib.hid (awake_any (w.alloc (.cells #[.slice a n c] 24)) (hv.below hb))
  have KE : Hid (Blk (w.alloc (.cells #[.slice a n c] 24)) w.heap.size 24 #[.slice a n c]) := Lib.hid (Blk.new _ _ _)
  have HB := Lib.hid hb
  have HN := Lib.hid hn
  have OB := Lib.hid (fun W (hW : Below w.heap.size w W) => each_t (W := W) ⟨hs, hv, hW, hg, hd, hsz⟩)
  have FB := Lib.hid (fun W (hW : Below w.heap.size w W) => free_t (W := W) ⟨hs, hv, hW, hg, hd, hsz⟩)
  have hnt : t.size = n := by rw [← hn, nds_len]
  have hkl : (kindsT t).length ≤ 256 := by unfold kindsT; split; rw [ksR_len 32 t [] hd]; exact hsz; simp
  have HER := Lib.hid (errs_of hd)
  obtain ⟨kl, hkk⟩ : ∃ z, (kindsT t).length = z := ⟨_, rfl⟩
  have HKK := Lib.hid hkk
  obtain ⟨at_, hat⟩ : ∃ z, atN t = z := ⟨_, rfl⟩
  obtain ⟨er, her⟩ : ∃ z, errN (ndsT t 0) t = z := ⟨_, rfl⟩
  obtain ⟨FF, hFF⟩ : ∃ z, frR 32 t [] [] = z := ⟨_, rfl⟩
  have hcase : (er = 0 ∧ FF = []) ∨ er = 90 ∨ (er = 91 ∧ FF ≠ []) := by
    rw [← her, ← hFF]
    rcases HER.out with ⟨h1, h2⟩ | ⟨h1, _⟩ | ⟨h1, _, h3⟩
    · exact .inl ⟨h1, wR_free [] hd h2⟩
    · exact .inr (.inl h1)
    · exact .inr (.inr ⟨h1, h3⟩)
  rw [hat, her] at OB
  rw [hFF] at FB
  have HOK := Lib.hid (nds_ok hg 0)
  have HT := Lib.hid (And.intro hg (And.intro hd (And.intro hsz (And.intro hat her))))
  obtain ⟨l, hl⟩ : ∃ l, ndsT t 0 = l := ⟨_, rfl⟩
  have HL := Lib.hid hl
  rw [hl] at hs HOK HN
  have HV := Lib.hid hv
  have HS := Lib.hid hs
  have HNA := Lib.hid hna
  have HNB0 := Lib.hid hnb
  have HFF := Lib.hid hFF
  rw [hkk] at hkl
  have n256 : n ≤ 256 := by omega
  have qat : (at_ != at_) = false := by simp
  have qer : (er != er) = false := by simp
  have qkl : ((kl : Int) != (kl : Int)) = false := by simp
  obtain ⟨jE, hi, hz, hs2, hby⟩ := info_parts info_enode
  have IE := Lib.hid (And.intro hi (And.intro hz (And.intro hs2 hby)))
  clear hi hz hs2 hby hs hv hn hb hg hd hsz hnt hkk hat her hFF hl hna hnb
  have x1 : ((er == 0) || (er == 90) || (er == 91)) = true := by rcases hcase with ⟨rfl, _⟩ | rfl | ⟨rfl, _⟩ <;> rfl
  go_enter Tryz.func4, Tryz.ntmps4
  go_upto_region 5 with (first
    | (go_at_call 7; go_must (refine AW.out.mono ?_); rintro e w1 ⟨rfl, b1⟩
       go_must (have B1 := Lib.hid (HB.out.trans (b1.mono HB.out.size)))
       go_must (have K1 := Lib.hid (KE.out.below b1 KE.out.lt))
       have e1 : w1.cell? ⟨w.heap.size, 0, none⟩ = some (.slice a n c) := K1.out.cell rfl
       have l1 : w.heap.size < w1.heap.size := K1.out.lt
       clear b1)
    | (go_at_call 12; go_must (refine (OB.out w1 B1.out).mono ?_); rintro e w2 ⟨sv, rfl, ho, b2⟩
       obtain ⟨sa, sc, rfl⟩ := ho.form
       rw [HKK.out] at ho ⊢
       go_must (have B2 := Lib.hid (B1.out.trans (b2.mono B1.out.size)))
       go_must (have K2 := Lib.hid (K1.out.below b2 K1.out.lt))
       have e2 : w2.cell? ⟨w.heap.size, 0, none⟩ = some (.slice a n c) := K2.out.cell rfl
       have l2 : w.heap.size < w2.heap.size := K2.out.lt
       have OL := Lib.hid (ho.read (by decide))
       clear b2 ho)
    | (go_at_call 13; go_must (refine (FB.out w2 B2.out).mono ?_); rintro e w3 ⟨fa, fc, LF, rfl, hfl, hff, _, b3⟩
       obtain ⟨fk, hfk⟩ : ∃ z, LF.length = z := ⟨_, rfl⟩
       rw [hfk] at hfl ⊢
       have hfz := free_len hff
       rw [hfk] at hfz
       have FZ := Lib.hid hfz
       have D3 := Lib.hid b3
       have B3 := Lib.hid (B2.out.trans (b3.mono B2.out.size))
       have K3 := Lib.hid (K2.out.below b3 K2.out.lt)
       clear b3 hff hfk hfz)
    | fail)
  clear e1 l1 e2 l2
  go_cut [64] from 34 to 64 (fun v64 wx => v64 = .bool false ∧ w3 = wx)
  case first =>
    rcases hcase with ⟨rfl, hf⟩ | rfl | ⟨rfl, hf⟩
    · obtain rfl := FZ.out.2 hf
      go_wp2_with fail
      go_meet
      exact ⟨rfl, rfl⟩
    · go_wp2_with fail
      go_meet
      exact ⟨rfl, rfl⟩
    · have fk0 : ((fk : Int) == 0) = false := by
        have : fk ≠ 0 := fun e => hf (FZ.out.1 e)
        simpa using this
      clear hf
      go_wp2_with fail
      go_meet
      exact ⟨rfl, rfl⟩
  case rest =>
    obtain ⟨rfl, rfl⟩ := hcut
    clear hcase x1
    go_upto_region 11 with fail
    have KG : Hid (Blk (w3.alloc (.cells #[.slice none 0 0] 24)) w3.heap.size 24 #[.slice none 0 0]) := Lib.hid (Blk.new _ _ _)
    have KE4 : Hid (Blk (w3.alloc (.cells #[.slice none 0 0] 24)) w.heap.size 24 #[.slice a n c]) := Lib.hid (K3.out.alloc _)
    have B4 : Hid (Below w.heap.size w (w3.alloc (.cells #[.slice none 0 0] 24))) := Lib.hid (B3.out.alloc B3.out.size _)
    have D4 : Hid (Below w2.heap.size w2 (w3.alloc (.cells #[.slice none 0 0] 24))) := Lib.hid (D3.out.alloc D3.out.size _)
    generalize hW4 : w3.alloc (.cells #[.slice none 0 0] 24) = W4 at *
    clear hW4
    obtain ⟨gb, hgb⟩ : ∃ z, w3.heap.size = z := ⟨_, rfl⟩
    rw [hgb] at KG ⊢
    obtain ⟨eb, heb⟩ : ∃ z, w.heap.size = z := ⟨_, rfl⟩
    have HGB : Hid (w.heap.size = eb ∧ eb < gb ∧ w2.heap.size ≤ gb) := Lib.hid ⟨heb, by have := K3.out.lt; omega, by have := D3.out.size; omega⟩
    have KE4' : Hid (Blk W4 eb 24 #[.slice a n c]) := Lib.hid (heb ▸ KE4.out)
    rw [heb]
    clear hgb heb KE4
    go_loopw [13, 14, 15] (fun v13 _ _ wr => ∃ (j : Nat) (ga : Option Addr) (gc : Nat), j ≤ n ∧ v13 = .int .i64 (j : Int) ∧ Hid (Blk wr gb 24 #[.slice ga j gc] ∧ Own1 wr (gb + 1) 40 4 (ND.Is w w.heap.size) (.slice ga j gc) ((l.take j).map (rnD na nb)) ∧ (∀ d ∈ l.take j, varD d = true → d.text ≠ nb) ∧ Blk wr eb 24 #[.slice a n c] ∧ Below w.heap.size w wr ∧ Below w2.heap.size w2 wr)) (fun v13 _ _ _ => n - (intOf v13).toNat)
    case atStart => exact ⟨0, none, 0, Nat.zero_le _, rfl, Lib.hid ⟨KG.out, ⟨[], ⟨rfl, .inl ⟨rfl, rfl⟩⟩, FlatR.nil_⟩, fun d hd => by simp at hd, KE4'.out, B4.out, D4.out⟩⟩
    case round =>
      obtain ⟨j, ga, gc, hj, rfl, hr⟩ := hrel
      obtain ⟨wo, hwo⟩ : ∃ W, W = wr := ⟨wr, rfl⟩
      subst hwo
      have KG1 := Lib.hid hr.out.1
      have OW := Lib.hid hr.out.2.1
      have HNO := Lib.hid hr.out.2.2.1
      have KE1 := Lib.hid hr.out.2.2.2.1
      have B1 := Lib.hid hr.out.2.2.2.2.1
      have D1 := Lib.hid hr.out.2.2.2.2.2
      clear hr KG KE4' B4 D4
      have e1 : wo.cell? ⟨eb, 0, none⟩ = some (.slice a n c) := KE1.out.cell rfl
      have lE1 : eb < wo.heap.size := KE1.out.lt
      have lg1 : gb < wo.heap.size := KG1.out.lt
      have j0 : (0 : Int) ≤ (j : Int) := Int.natCast_nonneg _
      by_cases hlt : j < n
      · obtain ⟨d, hd⟩ := get_some HN.out hlt
        obtain ⟨bN, off, x, rfl, hbN, _, ⟨kv, rfl, hks⟩, hx⟩ := HS.out.at_ hd
        obtain ⟨ka, kc, rfl, _⟩ := hks.form
        have hok := HOK.out d (List.mem_iff_getElem?.2 ⟨j, hd⟩)
        obtain ⟨kn, hkn⟩ : ∃ z, d.kids.length = z := ⟨_, rfl⟩
        rw [hkn] at hks hx
        have y0 := (B1.out.cell (p := ⟨bN, off + j * 4, none⟩) hbN).trans (hx 0 _ rfl)
        have y1 := (B1.out.cell (p := ⟨bN, off + j * 4 + 1, none⟩) hbN).trans (hx 1 _ rfl)
        have y2 := (B1.out.cell (p := ⟨bN, off + j * 4 + 2, none⟩) hbN).trans (hx 2 _ rfl)
        have y3 := (B1.out.cell (p := ⟨bN, off + j * 4 + 3, none⟩) hbN).trans (hx 3 _ rfl)
        have lbN : bN < wo.heap.size := Nat.lt_of_lt_of_le hbN B1.out.size
        have HKS := Lib.hid hks
        have HTX := Lib.hid hok
        have HTK : Hid (((l.take j).map (rnD na nb)).length = j ∧ (l.take (j + 1)).map (rnD na nb) = (l.take j).map (rnD na nb) ++ [rnD na nb d] ∧ l.take (j + 1) = l.take j ++ [d]) := Lib.hid ⟨by rw [List.length_map, List.length_take, HN.out]; omega, by rw [List.take_add_one, hd]; simp, by rw [List.take_add_one, hd]; simp⟩
        have HLT := Lib.hid hlt
        have jn : (j : Int) < (n : Int) := by omega
        have jnd : decide (j < n) = true := decide_eq_true hlt
        clear hd hks hok hkn hx hlt hbN
        go_upto_region 14 with fail
        have KQ : Hid (Blk (wo.alloc (.cells #[.int .i64 d.kind, .string (txt d.text), .int .i64 d.num, .slice ka kn kc] 40)) wo.heap.size 40 #[.int .i64 d.kind, .string (txt d.text), .int .i64 d.num, .slice ka kn kc]) := Lib.hid (Blk.new _ _ _)
        have B2O : Hid (Below wo.heap.size wo (wo.alloc (.cells #[.int .i64 d.kind, .string (txt d.text), .int .i64 d.num, .slice ka kn kc] 40))) := Lib.hid ((Below.refl _ _).alloc (Nat.le_refl _) _)
        generalize hW2 : wo.alloc (.cells #[.int .i64 d.kind, .string (txt d.text), .int .i64 d.num, .slice ka kn kc] 40) = W2 at *
        clear hW2
        obtain ⟨q, hq⟩ : ∃ z, wo.heap.size = z := ⟨_, rfl⟩
        have HQ := Lib.hid hq
        have lgq : gb < q := by omega
        rw [hq] at KQ ⊢
        clear hq e1 y0 y1 y2 y3
        have q0 : W2.cell? ⟨q, 0, none⟩ = some (.int .i64 d.kind) := KQ.out.cell (i := 0) rfl
        have q1 : W2.cell? ⟨q, 1, none⟩ = some (.string (txt d.text)) := KQ.out.cell (i := 1) rfl
        have q2 : W2.cell? ⟨q, 2, none⟩ = some (.int .i64 d.num) := KQ.out.cell (i := 2) rfl
        have q3 : W2.cell? ⟨q, 3, none⟩ = some (.slice ka kn kc) := KQ.out.cell (i := 3) rfl
        have zq := KQ.out.frozen 1
        have lq := KQ.out.lt
        obtain ⟨vb, hvb⟩ : ∃ z, varD d = z := ⟨_, rfl⟩
        have HVB := Lib.hid hvb
        go_cut [15] from 80 to 92 (fun v15 wx => v15 = .bool vb ∧ W2 = wx)
        case first =>
          have hvd : vb = decide (d.kind = 7 ∨ (31 ≤ d.kind ∧ d.kind ≤ 34)) := hvb.symm
          clear hvb
          by_cases h7 : d.kind = 7
          · have e7 : (d.kind == 7) = true := by rw [h7]; rfl
            have hv : vb = true := by rw [hvd]; simp [h7]
            clear h7 hvd
            go_wp2_with fail
            go_meet
            exact ⟨by rw [hv], rfl⟩
          · have e7 : (d.kind == 7) = false := by simpa using h7
            by_cases h31 : 31 ≤ d.kind
            · have e31 : decide (d.kind ≥ 31) = true := decide_eq_true h31
              have e31' : decide (31 ≤ d.kind) = true := decide_eq_true h31
              by_cases h34 : d.kind ≤ 34
              · have e34 : decide (d.kind ≤ 34) = true := decide_eq_true h34
                have hv : vb = true := by rw [hvd]; simp; omega
                clear h7 h31 h34 hvd
                go_wp2_with fail
                go_meet
                exact ⟨by rw [hv], rfl⟩
              · have e34 : decide (d.kind ≤ 34) = false := decide_eq_false h34
                have hv : vb = false := by rw [hvd]; simp; omega
                clear h7 h31 h34 hvd
                go_wp2_with fail
                go_meet
                exact ⟨by rw [hv], rfl⟩
            · have e31 : decide (d.kind ≥ 31) = false := decide_eq_false h31
              have e31' : decide (31 ≤ d.kind) = false := decide_eq_false h31
              have hv : vb = false := by rw [hvd]; simp; omega
              clear h7 h31 hvd
              go_wp2_with fail
              go_meet
              exact ⟨by rw [hv], rfl⟩
        case rest =>
          obtain ⟨rfl, rfl⟩ := hcut
          have KG2 : Hid (Blk W2 gb 24 #[.slice ga j gc]) := Lib.hid (KG1.out.below B2O.out lg1)
          have g2 : W2.cell? ⟨gb, 0, none⟩ = some (.slice ga j gc) := KG2.out.cell rfl
          have lg2 : gb < W2.heap.size := KG2.out.lt
          have OW2 : Hid (Own1 W2 (gb + 1) 40 4 (ND.Is w w.heap.size) (.slice ga j gc) ((l.take j).map (rnD na nb))) := Lib.hid (OW.out.below B2O.out (Nat.le_refl _))
          cases vb
          · have HRN : Hid (rnD na nb d = d) := Lib.hid (rnD_no hvb)
            clear hvb
            go_wp2_with (first
              | (at_builtin
                 go_must (refine wpList_append_list rfl (.tmp 110) (.tmp 112) _ (by rfl) (gb + 1) (W2.heap.size + 1) 40 jE _ 4 56 Tryz.underlying22 IE.out.1 IE.out.2.1 IE.out.2.2.1 IE.out.2.2.2 rfl (by omega) (R := ND.Is w w.heap.size) (l := (l.take j).map (rnD na nb)) (m := [(rnD na nb d)]) (.slice ga j gc) (by rfl) (by exact OW2.out.alloc (.cells #[.int .i64 d.kind, .string (txt d.text), .int .i64 d.num, .slice ka kn kc] 40)) (some ⟨W2.heap.size, 0, none⟩) 1 1 (by rfl) (SlR.new1 (w := W2) (e := 40) (g := W2.heap.size) rfl (x := [.int .i64 d.kind, .string (txt d.text), .int .i64 d.num, .slice ka kn kc]) rfl (R := ND.Is w w.heap.size) (y := (rnD na nb d)) ⟨_, by rw [HRN.out], by rw [HRN.out]; exact HKS.out⟩) (j + 1) (by rw [HTK.out.1]) NdIs_one (by have := HTK.out.1; unfold maxLen; simp at this ⊢; omega) (by have := HTK.out.1; simp at this ⊢; omega) (by simp; omega) ?_)
                 intro xa xc w5 hown hgr
                 have O5 := Lib.hid (And.intro hown hgr)
                 go_must (have K5 := Lib.hid (((KG2.out.alloc (.cells #[.int .i64 d.kind, .string (txt d.text), .int .i64 d.num, .slice ka kn kc] 40)).grown hgr (fun e => by have := (OW.out.block gb e.symm).1; omega))))
                 have m5 : w5.cell? ⟨gb, 0, none⟩ = some (.slice ga j gc) := K5.out.cell rfl
                 have z5 := K5.out.frozen 0
                 have l5 := K5.out.lt
                 clear hown hgr)
              | fail)
            go_roundw
            case rel => exact ⟨j + 1, xa, xc, HLT.out, by go_num, Lib.hid ⟨K5.out.set_ 0 _, by rw [HTK.out.2.1]; exact O5.out.1.setFar (p := ⟨gb, 0, none⟩) (Nat.lt_succ_self _) _, (fun d' hd' hv' => by rw [HTK.out.2.2] at hd'; rcases List.mem_append.1 hd' with h | h; exact HNO.out d' h hv'; (simp at h; subst h; rw [HVB.out] at hv'; cases hv')), ((KE1.out.below B2O.out lE1).alloc _ |>.grown O5.out.2 (fun e => by have := (OW.out.block eb e.symm).1; have := HGB.out; omega)).far (by show eb ≠ gb; have := HGB.out; omega) _, (((B1.out.trans (B2O.out.mono B1.out.size)).alloc (by have := B1.out.size; have := B2O.out.size; omega) _).grown O5.out.2 (by have := B1.out.size; have := B2O.out.size; simp; omega) (fun b hb => by have := (OW.out.block b hb).1; have := HGB.out; omega)).setCell (p := ⟨gb, 0, none⟩) (by show w.heap.size ≤ gb; have := HGB.out; omega) _, (((D1.out.trans (B2O.out.mono D1.out.size)).alloc (by have := D1.out.size; have := B2O.out.size; omega) _).grown O5.out.2 (by have := D1.out.size; have := B2O.out.size; simp; omega) (fun b hb => by have := (OW.out.block b hb).1; have := HGB.out; omega)).setCell (p := ⟨gb, 0, none⟩) (by show w2.heap.size ≤ gb; have := HGB.out; omega) _⟩⟩
            case measure => simp [intOf]; have := HLT.out; omega
          · by_cases htb : d.text = nb
            · have et : ((txt d.text).toList == (txt nb).toList) = true := by rw [htb]; simp
              clear hvb htb
              go_wp2_with fail
              go_ret
              exact ⟨rfl, B1.out.trans (B2O.out.mono B1.out.size)⟩
            · have et : ((txt d.text).toList == (txt nb).toList) = false := by rw [txt_eq HTX.out.1 HNB0.out.1]; exact decide_eq_false htb
              have HNB := Lib.hid htb
              by_cases hta : d.text = na
              · have ea : ((txt d.text).toList == (txt na).toList) = true := by rw [hta]; simp
                have HRN : Hid (rnD na nb d = ⟨d.kind, nb, d.num, d.kids⟩) := Lib.hid (rnD_yes hvb hta)
                clear hvb htb hta
                go_upto_region 19 with fail
                have KQ3 : Hid (Blk (W2.setCell ⟨q, 1, none⟩ (.string (txt nb))) q 40 #[.int .i64 d.kind, .string (txt nb), .int .i64 d.num, .slice ka kn kc]) := Lib.hid (KQ.out.set_ 1 _)
                have KG3 : Hid (Blk (W2.setCell ⟨q, 1, none⟩ (.string (txt nb))) gb 24 #[.slice ga j gc]) := Lib.hid (KG2.out.far (p := ⟨q, 1, none⟩) (Nat.ne_of_lt lgq) _)
                have B3O : Hid (Below wo.heap.size wo (W2.setCell ⟨q, 1, none⟩ (.string (txt nb)))) := Lib.hid (B2O.out.setCell (p := ⟨q, 1, none⟩) (by rw [HQ.out]; exact Nat.le_refl _) _)
                have OW3 : Hid (Own1 (W2.setCell ⟨q, 1, none⟩ (.string (txt nb))) (gb + 1) 40 4 (ND.Is w w.heap.size) (.slice ga j gc) ((l.take j).map (rnD na nb))) := Lib.hid (OW.out.below B3O.out (Nat.le_refl _))
                generalize hW3 : W2.setCell ⟨q, 1, none⟩ (.string (txt nb)) = W3 at *
                clear hW3 q0 q1 q2 q3 zq lq g2 lg2
                have q0 : W3.cell? ⟨q, 0, none⟩ = some (.int .i64 d.kind) := KQ3.out.cell (i := 0) rfl
                have q1 : W3.cell? ⟨q, 1, none⟩ = some (.string (txt nb)) := KQ3.out.cell (i := 1) rfl
                have q2 : W3.cell? ⟨q, 2, none⟩ = some (.int .i64 d.num) := KQ3.out.cell (i := 2) rfl
                have q3 : W3.cell? ⟨q, 3, none⟩ = some (.slice ka kn kc) := KQ3.out.cell (i := 3) rfl
                have lq := KQ3.out.lt
                have g2 : W3.cell? ⟨gb, 0, none⟩ = some (.slice ga j gc) := KG3.out.cell rfl
                have lg2 : gb < W3.heap.size := KG3.out.lt
                go_wp2_with (first
                  | (at_builtin
                     go_must (refine wpList_append_list rfl (.tmp 110) (.tmp 112) _ (by rfl) (gb + 1) (W3.heap.size + 1) 40 jE _ 4 56 Tryz.underlying22 IE.out.1 IE.out.2.1 IE.out.2.2.1 IE.out.2.2.2 rfl (by omega) (R := ND.Is w w.heap.size) (l := (l.take j).map (rnD na nb)) (m := [(rnD na nb d)]) (.slice ga j gc) (by rfl) (by exact OW3.out.alloc (.cells #[.int .i64 d.kind, .string (txt nb), .int .i64 d.num, .slice ka kn kc] 40)) (some ⟨W3.heap.size, 0, none⟩) 1 1 (by rfl) (SlR.new1 (w := W3) (e := 40) (g := W3.heap.size) rfl (x := [.int .i64 d.kind, .string (txt nb), .int .i64 d.num, .slice ka kn kc]) rfl (R := ND.Is w w.heap.size) (y := (rnD na nb d)) ⟨_, by rw [HRN.out], by rw [HRN.out]; exact HKS.out⟩) (j + 1) (by rw [HTK.out.1]) NdIs_one (by have := HTK.out.1; unfold maxLen; simp at this ⊢; omega) (by have := HTK.out.1; simp at this ⊢; omega) (by simp; omega) ?_)
                     intro xa xc w5 hown hgr
                     have O5 := Lib.hid (And.intro hown hgr)
                     go_must (have K5 := Lib.hid (((KG3.out.alloc (.cells #[.int .i64 d.kind, .string (txt nb), .int .i64 d.num, .slice ka kn kc] 40)).grown hgr (fun e => by have := (OW.out.block gb e.symm).1; omega))))
                     have m5 : w5.cell? ⟨gb, 0, none⟩ = some (.slice ga j gc) := K5.out.cell rfl
                     have z5 := K5.out.frozen 0
                     have l5 := K5.out.lt
                     clear hown hgr)
                  | fail)
                go_roundw
                case rel => exact ⟨j + 1, xa, xc, HLT.out, by go_num, Lib.hid ⟨K5.out.set_ 0 _, by rw [HTK.out.2.1]; exact O5.out.1.setFar (p := ⟨gb, 0, none⟩) (Nat.lt_succ_self _) _, (fun d' hd' hv' => by rw [HTK.out.2.2] at hd'; rcases List.mem_append.1 hd' with h | h; exact HNO.out d' h hv'; (simp at h; subst h; exact HNB.out)), ((KE1.out.below B3O.out lE1).alloc _ |>.grown O5.out.2 (fun e => by have := (OW.out.block eb e.symm).1; have := HGB.out; omega)).far (by show eb ≠ gb; have := HGB.out; omega) _, (((B1.out.trans (B3O.out.mono B1.out.size)).alloc (by have := B1.out.size; have := B3O.out.size; omega) _).grown O5.out.2 (by have := B1.out.size; have := B3O.out.size; simp; omega) (fun b hb => by have := (OW.out.block b hb).1; have := HGB.out; omega)).setCell (p := ⟨gb, 0, none⟩) (by show w.heap.size ≤ gb; have := HGB.out; omega) _, (((D1.out.trans (B3O.out.mono D1.out.size)).alloc (by have := D1.out.size; have := B3O.out.size; omega) _).grown O5.out.2 (by have := D1.out.size; have := B3O.out.size; simp; omega) (fun b hb => by have := (OW.out.block b hb).1; have := HGB.out; omega)).setCell (p := ⟨gb, 0, none⟩) (by show w2.heap.size ≤ gb; have := HGB.out; omega) _⟩⟩
                case measure => simp [intOf]; have := HLT.out; omega
              · have ea : ((txt d.text).toList == (txt na).toList) = false := by rw [txt_eq HTX.out.1 HNA.out]; exact decide_eq_false hta
                have HRN : Hid (rnD na nb d = d) := Lib.hid (rnD_other hta)
                clear hvb htb hta
                go_wp2_with (first
                  | (at_builtin
                     go_must (refine wpList_append_list rfl (.tmp 110) (.tmp 112) _ (by rfl) (gb + 1) (W2.heap.size + 1) 40 jE _ 4 56 Tryz.underlying22 IE.out.1 IE.out.2.1 IE.out.2.2.1 IE.out.2.2.2 rfl (by omega) (R := ND.Is w w.heap.size) (l := (l.take j).map (rnD na nb)) (m := [(rnD na nb d)]) (.slice ga j gc) (by rfl) (by exact OW2.out.alloc (.cells #[.int .i64 d.kind, .string (txt d.text), .int .i64 d.num, .slice ka kn kc] 40)) (some ⟨W2.heap.size, 0, none⟩) 1 1 (by rfl) (SlR.new1 (w := W2) (e := 40) (g := W2.heap.size) rfl (x := [.int .i64 d.kind, .string (txt d.text), .int .i64 d.num, .slice ka kn kc]) rfl (R := ND.Is w w.heap.size) (y := (rnD na nb d)) ⟨_, by rw [HRN.out], by rw [HRN.out]; exact HKS.out⟩) (j + 1) (by rw [HTK.out.1]) NdIs_one (by have := HTK.out.1; unfold maxLen; simp at this ⊢; omega) (by have := HTK.out.1; simp at this ⊢; omega) (by simp; omega) ?_)
                     intro xa xc w5 hown hgr
                     have O5 := Lib.hid (And.intro hown hgr)
                     go_must (have K5 := Lib.hid (((KG2.out.alloc (.cells #[.int .i64 d.kind, .string (txt d.text), .int .i64 d.num, .slice ka kn kc] 40)).grown hgr (fun e => by have := (OW.out.block gb e.symm).1; omega))))
                     have m5 : w5.cell? ⟨gb, 0, none⟩ = some (.slice ga j gc) := K5.out.cell rfl
                     have z5 := K5.out.frozen 0
                     have l5 := K5.out.lt
                     clear hown hgr)
                  | fail)
                go_roundw
                case rel => exact ⟨j + 1, xa, xc, HLT.out, by go_num, Lib.hid ⟨K5.out.set_ 0 _, by rw [HTK.out.2.1]; exact O5.out.1.setFar (p := ⟨gb, 0, none⟩) (Nat.lt_succ_self _) _, (fun d' hd' hv' => by rw [HTK.out.2.2] at hd'; rcases List.mem_append.1 hd' with h | h; exact HNO.out d' h hv'; (simp at h; subst h; exact HNB.out)), ((KE1.out.below B2O.out lE1).alloc _ |>.grown O5.out.2 (fun e => by have := (OW.out.block eb e.symm).1; have := HGB.out; omega)).far (by show eb ≠ gb; have := HGB.out; omega) _, (((B1.out.trans (B2O.out.mono B1.out.size)).alloc (by have := B1.out.size; have := B2O.out.size; omega) _).grown O5.out.2 (by have := B1.out.size; have := B2O.out.size; simp; omega) (fun b hb => by have := (OW.out.block b hb).1; have := HGB.out; omega)).setCell (p := ⟨gb, 0, none⟩) (by show w.heap.size ≤ gb; have := HGB.out; omega) _, (((D1.out.trans (B2O.out.mono D1.out.size)).alloc (by have := D1.out.size; have := B2O.out.size; omega) _).grown O5.out.2 (by have := D1.out.size; have := B2O.out.size; simp; omega) (fun b hb => by have := (OW.out.block b hb).1; have := HGB.out; omega)).setCell (p := ⟨gb, 0, none⟩) (by show w2.heap.size ≤ gb; have := HGB.out; omega) _⟩⟩
                case measure => simp [intOf]; have := HLT.out; omega
      · have hjn : j = n := by omega
        have d1 : decide ((j : Int) < (n : Int)) = false := by rw [hjn]; simp
        have d2 : decide (j < n) = false := by rw [hjn]; simp
        have hall : l.take j = l := List.take_of_length_le (by rw [HN.out, hjn]; exact Nat.le_refl _)
        rw [hall] at OW HNO
        rw [hjn] at OW KG1
        have hg1 : wo.cell? ⟨gb, 0, none⟩ = some (.slice ga n gc) := KG1.out.cell rfl
        have hno : noB nb t := noB_of nb t 0 (fun d hd h => HNO.out d (HL.out ▸ hd) (by unfold varD; exact decide_eq_true h))
        have hrd := nd_imp (OW.out.read (by decide)) B1.out (Nat.le_refl _)
        rw [← HL.out, nds_rn] at hrd
        have SR := Lib.hid hrd
        have VX := Lib.hid (HV.out.below B1.out)
        have hrs := rn_size na nb t
        have hok2 : ∀ d ∈ ndsT (rnT na nb t) 0, NdOk d := by
          intro d hd
          rw [← nds_rn] at hd
          obtain ⟨d0, h0, rfl⟩ := List.mem_map.1 hd
          have h1 := HOK.out d0 (HL.out ▸ h0)
          unfold rnD
          split
          · exact ⟨HNB0.out.1, HNB0.out.2, h1.2.2⟩
          · exact h1
        have RX := Lib.hid (right_e wo wo SR.out hok2 VX.out.marks VX.out.pow (Below.refl _ _))
        have hright := right_rn (a := na) HT.out.1 (fun d hd => HOK.out d (HL.out ▸ hd)) HNB0.out HT.out.2.1 HT.out.2.2.1
        have DL := Lib.hid D1.out
        clear hlt hjn hall hj hrd hok2
        rcases hright with ⟨hr0, hg2⟩ | hr80
        · rw [hr0] at RX
          have EX := Lib.hid (fun W (hW : Below wo.heap.size wo W) => each_t (W := W) ⟨SR.out, VX.out, hW, hg2, by rw [hrs.2]; exact HT.out.2.1, by rw [hrs.1]; exact HT.out.2.2.1⟩)
          obtain ⟨s1, s2, s3⟩ := same_rn (a := na) hno
          rw [s1, s2, s3, HT.out.2.2.2.1, HT.out.2.2.2.2] at EX
          clear hr0 hg2 hno hrs s1 s2 s3
          go_upto_region 27 with (first
            | (go_at_call 11; go_must (refine RX.out.mono ?_); rintro e w7 ⟨rfl, b7⟩
               go_must (have B7 := Lib.hid b7)
               have g7 : w7.cell? ⟨gb, 0, none⟩ = some (.slice ga n gc) := (KG1.out.below b7 lg1).cell rfl
               have l7 : gb < w7.heap.size := Nat.lt_of_lt_of_le lg1 b7.size
               clear b7)
            | (go_at_call 12; go_must (refine (EX.out w7 B7.out).mono ?_); rintro e w8 ⟨sv2, rfl, ho, b8⟩
               obtain ⟨ma, mc, rfl⟩ := ho.form
               rw [HKK.out] at ho ⊢
               have OM := Lib.hid (ho.read (by decide))
               have D8 := Lib.hid (DL.out.trans ((B7.out.trans (b8.mono B7.out.size)).mono DL.out.size))
               have B8 := Lib.hid (B1.out.trans ((B7.out.trans (b8.mono B7.out.size)).mono B1.out.size))
               clear b8 ho)
            | fail)
          have OL8 := Lib.hid (OL.out.below D8.out)
          clear g7 l7 hg1 e1
          go_loopw [20] (fun v20 wr => ∃ k : Nat, k ≤ kl ∧ v20 = .int .i64 (k : Int) ∧ Quiet w8 wr) (fun v20 _ => kl - (intOf v20).toNat)
          case atStart => exact ⟨0, by omega, rfl, Quiet.refl _⟩
          case round =>
            obtain ⟨k, hk, rfl, hq⟩ := hrel
            have hqb := hq.below w8.heap.size
            have HQ := Lib.hid hq
            by_cases hlk : k < kl
            · obtain ⟨y, hy⟩ := get_some HKK.out hlk
              obtain ⟨mb, mo, x1, rfl, hmb, _, rfl, hx1⟩ := OM.out.at_ hy
              obtain ⟨lb, lo, x2, rfl, hlb, _, rfl, hx2⟩ := OL8.out.at_ hy
              have y1 := (hqb.cell (p := ⟨mb, mo + k * 1, none⟩) hmb).trans (hx1 0 _ rfl)
              have y2 := ((hqb.mono D8.out.size).cell (p := ⟨lb, lo + k * 1, none⟩) hlb).trans (hx2 0 _ rfl)
              simp only [Nat.add_zero, Nat.mul_one] at y1 y2
              have k0 : (0 : Int) ≤ (k : Int) := Int.natCast_nonneg _
              have k1 : (k : Int) < (kl : Int) := by omega
              have qyy : (y != y) = false := by simp
              have lm : mb < wr.heap.size := Nat.lt_of_lt_of_le hmb hqb.size
              have ll : lb < wr.heap.size := by have := D8.out.size; have := hqb.size; omega
              have HLK := Lib.hid hlk
              clear hy hx1 hx2 hmb hlb hlk hqb hq
              go_wp2_with fail
              go_quiet (fail)
              go_wp2_with fail
              go_roundw
              case rel => exact ⟨k + 1, HLK.out, by go_num, HQ.out.drewN _⟩
              case measure => simp [intOf]; have := HLK.out; omega
            · have hkk : k = kl := by omega
              have d1 : decide ((k : Int) < (kl : Int)) = false := by rw [hkk]; simp
              have d2 : decide (k < kl) = false := by rw [hkk]; simp
              clear hlk hkk hqb hq
              go_wp2_with fail
              go_ret
              exact ⟨rfl, B8.out.trans ((HQ.out.below w8.heap.size).mono B8.out.size)⟩
        · rw [hr80] at RX
          clear hr80 hno hrs
          go_wp2_with (first
            | (go_at_call 11; go_must (refine RX.out.mono ?_); rintro e w7 ⟨rfl, b7⟩; have B7 := Lib.hid (B1.out.trans (b7.mono B1.out.size)); clear b7)
            | fail)
          go_ret
          exact ⟨rfl, B7.out⟩
theorem lawNames {l : List ND} {v : Value} (w : World) (hs : SlR w w.heap.size 4 (ND.Is w w.heap.size) v l) (hok : ∀ d ∈ l, NdOk d) (hv : AllV w) (x1 x2 : ByteArray) (hx : x2.size ≤ 140737488355328) : Calls Tryz.prog 4 #[.agg #[v], .string x1, .string x2] w fun e w' => e = .returned (.bool true) ∧ Below w.heap.size w w' := by
  have e1 := txt_bs x1
  have e2 := txt_bs x2
  rw [← e1, ← e2]
  by_cases hr : rightE l = 0
  · obtain ⟨t, tg, td, ts, hl, _⟩ := right_tree hok hr
    subst hl
    exact names_tree w hs hv tg td ts (bs x1) (bs x2) (bs_bytes _) ⟨bs_bytes _, by rw [bs_len]; exact hx⟩
  · exact names_bad w hs hv hok hr (bs x1) (bs x2)
end Go.Proofs.YtidkbodmiegbkaaGreatDoor
