/- Chapter 11: lead and plain. -/
import Derived.Test.YtdkoafmgenbkbaaDoorCdA
namespace Go.Proofs.YtdkoafmgenbkbaaDoor
set_option linter.unusedSimpArgs false
set_option linter.unusedVariables false
open Go.RowKit

abbrev PlS := PlR 60 96
abbrev LpR (W : World) := RowR W 96 2 LoopIs
/-- what a function that leads to places comes to -/
def LedTo (W : World) (g : Nat) (r : Option (List Pl)) (e : Ending) (w' : World) : Prop :=
  e = .returned (.bool r.isSome) ∧ W.grownBy w' (some g) ∧ ∀ l', r = some l' → PlS w' g l'
theorem leadN_known {l : List Pl} {to : Nat} {p : Pl} {h : Int} {ls : List (Int × Int)} (hp : l[to]? = some p) (hk : p.known = true) : leadN l to h ls = if p.height = h ∧ p.loops = ls then some l else none := by
  unfold leadN
  rw [hp]
  simp only [hk, if_true]
theorem leadN_new {l : List Pl} {to : Nat} {p : Pl} {h : Int} {ls : List (Int × Int)} (hp : l[to]? = some p) (hk : p.known = false) : leadN l to h ls = some (l.set to ⟨true, h, ls⟩) := by
  unfold leadN
  rw [hp]
  simp [hk]
set_option maxHeartbeats 2000000 in
theorem lead_any {k g n c : Nat} {lv : Value} {l : List Pl} (W : World) (to : Nat) (h : Int) (v : Value) (ls : List (Int × Int))
   (HK : Blk W k 56 #[lv, .slice (some ⟨g, 0, none⟩) n c]) (HP : PlS W g l) (hn : n = l.length) (hto : to < l.length) (hmax : n ≤ 1025) (hv : LpR W v ls) :
    Calls Tryd.prog 17 #[.pointer (some ⟨k, 0, none⟩), .int .i64 to, .int .i64 h, v] W (LedTo W g (leadN l to h ls)) := by
  obtain ⟨p, hp⟩ := get_some rfl hto
  obtain ⟨pv, e0, e1, e2, er⟩ := HP.at_ hp
  obtain ⟨pa, pc, rfl⟩ := er.form
  obtain ⟨va, vc, rfl⟩ := hv.form
  have HE := Lib.hid (fun W' (hW : Below W.heap.size W W') => equal_Loop W' W er.read hv.read hW)
  have fz := HP.froz
  have f0 := fz (to * 3)
  have f1 := fz (to * 3 + 1)
  have f2 := fz (to * 3 + 2)
  have hgl := HP.lt
  have hkl := HK.lt
  have ck1 : W.cell? ⟨k, 1, none⟩ = some (.slice (some ⟨g, 0, none⟩) n c) := HK.cell (i := 1) rfl
  have hto1 : (to : Int) < (n : Int) := by omega
  have hto0 : (0 : Int) ≤ (to : Int) := Int.natCast_nonneg _
  have HP' := Lib.hid HP
  have Hn := Lib.hid hn
  have Hp := Lib.hid hp
  have Hto := Lib.hid hto
  have Hv := Lib.hid hv
  have HLN : Hid (leadN l to h ls = if p.known = true then (if p.height = h ∧ p.loops = ls then some l else none) else some (l.set to ⟨true, h, ls⟩)) := Lib.hid (by unfold leadN; rw [hp])
  clear HK HP hn hto hp er hv fz
  obtain ⟨pk, hpk⟩ : ∃ b, p.known = b := ⟨_, rfl⟩
  rw [hpk] at e0
  have Hpk := Lib.hid hpk
  clear hpk
  cases pk with
  | true =>
    by_cases hh : p.height = h
    · have hh1 : (p.height == h) = true := by simpa using hh
      have Hh := Lib.hid hh
      go_enter Tryd.func17, Tryd.ntmps17
      go_wp2_with (go_at_call 34; refine (HE.out _ (Below.refl _ _)).mono ?_; rintro e w1 ⟨rfl, hq⟩; have Hq := Lib.hid hq; clear hq)
      go_ret
      refine ⟨?_, grown_below (Hq.out.below _) _, fun l' e => ?_⟩
      · rw [HLN.out, Hpk.out, if_pos rfl]
        by_cases hl : p.loops = ls
        · rw [if_pos ⟨Hh.out, hl⟩]; simp [hl]
        · rw [if_neg (fun a => hl a.2)]; simp [hl]
      · rw [HLN.out, Hpk.out, if_pos rfl] at e
        split at e
        · injection e with e; subst e; exact HP'.out.below (Hq.out.below _)
        · cases e
    · have hh1 : (p.height == h) = false := by simpa using hh
      have Hh := Lib.hid hh
      go_enter Tryd.func17, Tryd.ntmps17
      go_wp2_with fail
      go_ret
      have hnone : leadN l to h ls = none := by rw [HLN.out, Hpk.out, if_pos rfl, if_neg (fun a => Hh.out a.1)]
      refine ⟨by rw [hnone]; rfl, grown_below (Below.refl _ _) _, fun l' e => ?_⟩
      rw [hnone] at e; cases e
  | false =>
    go_enter Tryd.func17, Tryd.ntmps17
    go_wp2_with fail
    go_ret
    have hs : leadN l to h ls = some (l.set to ⟨true, h, ls⟩) := by rw [HLN.out, Hpk.out]; simp
    refine ⟨by rw [hs]; rfl, grown_trans (grown_trans (grown_set _ _ _ _) (grown_set _ _ _ _)) (grown_set _ _ _ _), fun l' e => ?_⟩
    rw [hs] at e
    injection e with e
    subst e
    exact HP'.out.set_ Hto.out h Hv.out

theorem hasN_le (op : Int) : hasN op = 0 ∨ hasN op = 1 ∨ hasN op = 2 ∨ hasN op = 3 ∨ hasN op = 4 ∨ hasN op = 5 := by
  unfold hasN
  repeat' split
  all_goals simp
set_option maxRecDepth 100000 in
set_option maxHeartbeats 4000000 in
theorem plain_any (d : Ins) (hd : d.ok) (w : World) : Calls Tryd.prog 18 #[.agg #[.int .i64 d.op, .int .i64 d.arg, .int .i64 d.int, .string d.text]] w fun e w' => e = .returned (.bool (plainN d)) ∧ Below w.heap.size w w' := by
  obtain ⟨op, arg, int, text⟩ := d
  obtain ⟨hd0, hd1, hd2, hd3⟩ := hd
  simp only at hd0 hd1 hd2 hd3 ⊢
  have Hd3 := Lib.hid hd3
  clear hd0 hd1 hd2 hd3
  by_cases hr : 1 ≤ op ∧ op ≤ 40
  · obtain ⟨h1, h2⟩ := hr
    have ho1 : ¬ op < 1 := by omega
    have ho2 : ¬ 40 < op := by omega
    have HW := Lib.hid (fun W => what_any op h1 h2 W)
    have HR := Lib.hid (fun W => right_any text Hd3.out W)
    have hpl : Hid (∀ b, plainN ⟨op, arg, int, text⟩ = b ↔ (decide ((hasN op = 1 ∨ hasN op = 5 ∨ arg = 0) ∧ (hasN op = 2 ∨ int = 0) ∧ (hasN op = 3 ∨ hasN op = 4 ∨ text = ⟨#[]⟩) ∧ 0 ≤ arg) && (if hasN op = 3 then decide (text.size ≤ 4096) else if hasN op = 4 then rightN (bs text) else decide (op ≠ 1 ∨ 0 < arg))) = b) := Lib.hid (fun b => by unfold plainN; simp only [h1, h2, and_self, decide_true, Bool.true_and])
    clear h1 h2
    rcases hasN_le op with hm | hm | hm | hm | hm | hm
    all_goals rw [hm] at HW hpl
    all_goals have Hm := Lib.hid hm
    all_goals clear hm
    · by_cases ca : arg = 0
      · subst ca
        by_cases ci : int = 0
        · subst ci
          by_cases ct : text = ⟨#[]⟩
          · subst ct
            have hop : op ≠ 1 := by intro e; subst e; have := Hm.out; revert this; decide
            have hop1 : (op != 1) = true := by simpa using hop
            have hop2 : (op == 1) = false := by simpa using hop
            go_enter Tryd.func18, Tryd.ntmps18
            go_wp2_with (first
              | (go_at_call 35; refine (HW.out _).mono ?_; rintro e w1 ⟨rfl, hq⟩; obtain ⟨nq, rfl⟩ := hq; skip)
              | (go_at_call 36; refine (HR.out _).mono ?_; rintro e w2 ⟨rfl, hq⟩; obtain ⟨nr, rfl⟩ := hq)
              | fail)
            go_ret
            refine ⟨?_, ?_⟩
            · rw [(hpl.out _).2 rfl]
              simp [hop] <;> omega
            · first | exact (Below.refl _ _).alloc (Nat.le_refl _) _ | exact below_drewN ((Below.refl _ _).alloc (Nat.le_refl _) _) _ | exact below_drewN (below_drewN ((Below.refl _ _).alloc (Nat.le_refl _) _) _) _
          · have ct1 : ¬ text.toList = [] := fun e => ct ((toList_inj _ _).1 (e.trans (by rw [ByteArray.toList_eq])))
            have ct2 : (!text.toList.isEmpty) = true := by simpa using ct1
            have ct3 : (text.toList == []) = false := by simpa using ct1
            have ct4 : (text.toList != []) = true := by simpa using ct1
            clear ct1
            go_enter Tryd.func18, Tryd.ntmps18
            go_wp2_with (first
              | (go_at_call 35; refine (HW.out _).mono ?_; rintro e w1 ⟨rfl, hq⟩; obtain ⟨nq, rfl⟩ := hq; skip)
              | (go_at_call 36; refine (HR.out _).mono ?_; rintro e w2 ⟨rfl, hq⟩; obtain ⟨nr, rfl⟩ := hq)
              | fail)
            go_ret
            refine ⟨?_, ?_⟩
            · rw [(hpl.out _).2 rfl]
              simp [ct]
            · first | exact (Below.refl _ _).alloc (Nat.le_refl _) _ | exact below_drewN ((Below.refl _ _).alloc (Nat.le_refl _) _) _ | exact below_drewN (below_drewN ((Below.refl _ _).alloc (Nat.le_refl _) _) _) _
        · have ci1 : (int != 0) = true := by simpa using ci
          go_enter Tryd.func18, Tryd.ntmps18
          go_wp2_with (first
            | (go_at_call 35; refine (HW.out _).mono ?_; rintro e w1 ⟨rfl, hq⟩; obtain ⟨nq, rfl⟩ := hq; skip)
            | (go_at_call 36; refine (HR.out _).mono ?_; rintro e w2 ⟨rfl, hq⟩; obtain ⟨nr, rfl⟩ := hq)
            | fail)
          go_ret
          refine ⟨?_, ?_⟩
          · rw [(hpl.out _).2 rfl]
            simp [ci]
          · first | exact (Below.refl _ _).alloc (Nat.le_refl _) _ | exact below_drewN ((Below.refl _ _).alloc (Nat.le_refl _) _) _ | exact below_drewN (below_drewN ((Below.refl _ _).alloc (Nat.le_refl _) _) _) _
      · have ca1 : (arg != 0) = true := by simpa using ca
        go_enter Tryd.func18, Tryd.ntmps18
        go_wp2_with (first
          | (go_at_call 35; refine (HW.out _).mono ?_; rintro e w1 ⟨rfl, hq⟩; obtain ⟨nq, rfl⟩ := hq; skip)
          | (go_at_call 36; refine (HR.out _).mono ?_; rintro e w2 ⟨rfl, hq⟩; obtain ⟨nr, rfl⟩ := hq)
          | fail)
        go_ret
        refine ⟨?_, ?_⟩
        · rw [(hpl.out _).2 rfl]
          simp [ca]
        · first | exact (Below.refl _ _).alloc (Nat.le_refl _) _ | exact below_drewN ((Below.refl _ _).alloc (Nat.le_refl _) _) _ | exact below_drewN (below_drewN ((Below.refl _ _).alloc (Nat.le_refl _) _) _) _
    · by_cases ci : int = 0
      · subst ci
        by_cases ct : text = ⟨#[]⟩
        · subst ct
          by_cases cn : arg < 0
          · go_enter Tryd.func18, Tryd.ntmps18
            go_wp2_with (first
              | (go_at_call 35; refine (HW.out _).mono ?_; rintro e w1 ⟨rfl, hq⟩; obtain ⟨nq, rfl⟩ := hq; skip)
              | (go_at_call 36; refine (HR.out _).mono ?_; rintro e w2 ⟨rfl, hq⟩; obtain ⟨nr, rfl⟩ := hq)
              | fail)
            go_ret
            refine ⟨?_, ?_⟩
            · rw [(hpl.out _).2 rfl]
              simp <;> omega
            · first | exact (Below.refl _ _).alloc (Nat.le_refl _) _ | exact below_drewN ((Below.refl _ _).alloc (Nat.le_refl _) _) _ | exact below_drewN (below_drewN ((Below.refl _ _).alloc (Nat.le_refl _) _) _) _
          · by_cases hop : op = 1
            · subst hop
              go_enter Tryd.func18, Tryd.ntmps18
              go_wp2_with (first
                | (go_at_call 35; refine (HW.out _).mono ?_; rintro e w1 ⟨rfl, hq⟩; obtain ⟨nq, rfl⟩ := hq; skip)
                | (go_at_call 36; refine (HR.out _).mono ?_; rintro e w2 ⟨rfl, hq⟩; obtain ⟨nr, rfl⟩ := hq)
                | fail)
              go_ret
              refine ⟨?_, ?_⟩
              · rw [(hpl.out _).2 rfl]
                simp <;> omega
              · first | exact (Below.refl _ _).alloc (Nat.le_refl _) _ | exact below_drewN ((Below.refl _ _).alloc (Nat.le_refl _) _) _ | exact below_drewN (below_drewN ((Below.refl _ _).alloc (Nat.le_refl _) _) _) _
            · have hop1 : (op != 1) = true := by simpa using hop
              have hop2 : (op == 1) = false := by simpa using hop
              go_enter Tryd.func18, Tryd.ntmps18
              go_wp2_with (first
                | (go_at_call 35; refine (HW.out _).mono ?_; rintro e w1 ⟨rfl, hq⟩; obtain ⟨nq, rfl⟩ := hq; skip)
                | (go_at_call 36; refine (HR.out _).mono ?_; rintro e w2 ⟨rfl, hq⟩; obtain ⟨nr, rfl⟩ := hq)
                | fail)
              go_ret
              refine ⟨?_, ?_⟩
              · rw [(hpl.out _).2 rfl]
                simp [hop] <;> omega
              · first | exact (Below.refl _ _).alloc (Nat.le_refl _) _ | exact below_drewN ((Below.refl _ _).alloc (Nat.le_refl _) _) _ | exact below_drewN (below_drewN ((Below.refl _ _).alloc (Nat.le_refl _) _) _) _
        · have ct1 : ¬ text.toList = [] := fun e => ct ((toList_inj _ _).1 (e.trans (by rw [ByteArray.toList_eq])))
          have ct2 : (!text.toList.isEmpty) = true := by simpa using ct1
          have ct3 : (text.toList == []) = false := by simpa using ct1
          have ct4 : (text.toList != []) = true := by simpa using ct1
          clear ct1
          go_enter Tryd.func18, Tryd.ntmps18
          go_wp2_with (first
            | (go_at_call 35; refine (HW.out _).mono ?_; rintro e w1 ⟨rfl, hq⟩; obtain ⟨nq, rfl⟩ := hq; skip)
            | (go_at_call 36; refine (HR.out _).mono ?_; rintro e w2 ⟨rfl, hq⟩; obtain ⟨nr, rfl⟩ := hq)
            | fail)
          go_ret
          refine ⟨?_, ?_⟩
          · rw [(hpl.out _).2 rfl]
            simp [ct]
          · first | exact (Below.refl _ _).alloc (Nat.le_refl _) _ | exact below_drewN ((Below.refl _ _).alloc (Nat.le_refl _) _) _ | exact below_drewN (below_drewN ((Below.refl _ _).alloc (Nat.le_refl _) _) _) _
      · have ci1 : (int != 0) = true := by simpa using ci
        go_enter Tryd.func18, Tryd.ntmps18
        go_wp2_with (first
          | (go_at_call 35; refine (HW.out _).mono ?_; rintro e w1 ⟨rfl, hq⟩; obtain ⟨nq, rfl⟩ := hq; skip)
          | (go_at_call 36; refine (HR.out _).mono ?_; rintro e w2 ⟨rfl, hq⟩; obtain ⟨nr, rfl⟩ := hq)
          | fail)
        go_ret
        refine ⟨?_, ?_⟩
        · rw [(hpl.out _).2 rfl]
          simp [ci]
        · first | exact (Below.refl _ _).alloc (Nat.le_refl _) _ | exact below_drewN ((Below.refl _ _).alloc (Nat.le_refl _) _) _ | exact below_drewN (below_drewN ((Below.refl _ _).alloc (Nat.le_refl _) _) _) _
    · by_cases ca : arg = 0
      · subst ca
        by_cases ct : text = ⟨#[]⟩
        · subst ct
          have hop : op ≠ 1 := by intro e; subst e; have := Hm.out; revert this; decide
          have hop1 : (op != 1) = true := by simpa using hop
          have hop2 : (op == 1) = false := by simpa using hop
          go_enter Tryd.func18, Tryd.ntmps18
          go_wp2_with (first
            | (go_at_call 35; refine (HW.out _).mono ?_; rintro e w1 ⟨rfl, hq⟩; obtain ⟨nq, rfl⟩ := hq; skip)
            | (go_at_call 36; refine (HR.out _).mono ?_; rintro e w2 ⟨rfl, hq⟩; obtain ⟨nr, rfl⟩ := hq)
            | fail)
          go_ret
          refine ⟨?_, ?_⟩
          · rw [(hpl.out _).2 rfl]
            simp [hop] <;> omega
          · first | exact (Below.refl _ _).alloc (Nat.le_refl _) _ | exact below_drewN ((Below.refl _ _).alloc (Nat.le_refl _) _) _ | exact below_drewN (below_drewN ((Below.refl _ _).alloc (Nat.le_refl _) _) _) _
        · have ct1 : ¬ text.toList = [] := fun e => ct ((toList_inj _ _).1 (e.trans (by rw [ByteArray.toList_eq])))
          have ct2 : (!text.toList.isEmpty) = true := by simpa using ct1
          have ct3 : (text.toList == []) = false := by simpa using ct1
          have ct4 : (text.toList != []) = true := by simpa using ct1
          clear ct1
          go_enter Tryd.func18, Tryd.ntmps18
          go_wp2_with (first
            | (go_at_call 35; refine (HW.out _).mono ?_; rintro e w1 ⟨rfl, hq⟩; obtain ⟨nq, rfl⟩ := hq; skip)
            | (go_at_call 36; refine (HR.out _).mono ?_; rintro e w2 ⟨rfl, hq⟩; obtain ⟨nr, rfl⟩ := hq)
            | fail)
          go_ret
          refine ⟨?_, ?_⟩
          · rw [(hpl.out _).2 rfl]
            simp [ct]
          · first | exact (Below.refl _ _).alloc (Nat.le_refl _) _ | exact below_drewN ((Below.refl _ _).alloc (Nat.le_refl _) _) _ | exact below_drewN (below_drewN ((Below.refl _ _).alloc (Nat.le_refl _) _) _) _
      · have ca1 : (arg != 0) = true := by simpa using ca
        go_enter Tryd.func18, Tryd.ntmps18
        go_wp2_with (first
          | (go_at_call 35; refine (HW.out _).mono ?_; rintro e w1 ⟨rfl, hq⟩; obtain ⟨nq, rfl⟩ := hq; skip)
          | (go_at_call 36; refine (HR.out _).mono ?_; rintro e w2 ⟨rfl, hq⟩; obtain ⟨nr, rfl⟩ := hq)
          | fail)
        go_ret
        refine ⟨?_, ?_⟩
        · rw [(hpl.out _).2 rfl]
          simp [ca]
        · first | exact (Below.refl _ _).alloc (Nat.le_refl _) _ | exact below_drewN ((Below.refl _ _).alloc (Nat.le_refl _) _) _ | exact below_drewN (below_drewN ((Below.refl _ _).alloc (Nat.le_refl _) _) _) _
    · by_cases ca : arg = 0
      · subst ca
        by_cases ci : int = 0
        · subst ci
          go_enter Tryd.func18, Tryd.ntmps18
          go_wp2_with (first
            | (go_at_call 35; refine (HW.out _).mono ?_; rintro e w1 ⟨rfl, hq⟩; obtain ⟨nq, rfl⟩ := hq; skip)
            | (go_at_call 36; refine (HR.out _).mono ?_; rintro e w2 ⟨rfl, hq⟩; obtain ⟨nr, rfl⟩ := hq)
            | fail)
          go_ret
          refine ⟨?_, ?_⟩
          · rw [(hpl.out _).2 rfl]
            simp <;> omega
          · first | exact (Below.refl _ _).alloc (Nat.le_refl _) _ | exact below_drewN ((Below.refl _ _).alloc (Nat.le_refl _) _) _ | exact below_drewN (below_drewN ((Below.refl _ _).alloc (Nat.le_refl _) _) _) _
        · have ci1 : (int != 0) = true := by simpa using ci
          go_enter Tryd.func18, Tryd.ntmps18
          go_wp2_with (first
            | (go_at_call 35; refine (HW.out _).mono ?_; rintro e w1 ⟨rfl, hq⟩; obtain ⟨nq, rfl⟩ := hq; skip)
            | (go_at_call 36; refine (HR.out _).mono ?_; rintro e w2 ⟨rfl, hq⟩; obtain ⟨nr, rfl⟩ := hq)
            | fail)
          go_ret
          refine ⟨?_, ?_⟩
          · rw [(hpl.out _).2 rfl]
            simp [ci]
          · first | exact (Below.refl _ _).alloc (Nat.le_refl _) _ | exact below_drewN ((Below.refl _ _).alloc (Nat.le_refl _) _) _ | exact below_drewN (below_drewN ((Below.refl _ _).alloc (Nat.le_refl _) _) _) _
      · have ca1 : (arg != 0) = true := by simpa using ca
        go_enter Tryd.func18, Tryd.ntmps18
        go_wp2_with (first
          | (go_at_call 35; refine (HW.out _).mono ?_; rintro e w1 ⟨rfl, hq⟩; obtain ⟨nq, rfl⟩ := hq; skip)
          | (go_at_call 36; refine (HR.out _).mono ?_; rintro e w2 ⟨rfl, hq⟩; obtain ⟨nr, rfl⟩ := hq)
          | fail)
        go_ret
        refine ⟨?_, ?_⟩
        · rw [(hpl.out _).2 rfl]
          simp [ca]
        · first | exact (Below.refl _ _).alloc (Nat.le_refl _) _ | exact below_drewN ((Below.refl _ _).alloc (Nat.le_refl _) _) _ | exact below_drewN (below_drewN ((Below.refl _ _).alloc (Nat.le_refl _) _) _) _
    · by_cases ca : arg = 0
      · subst ca
        by_cases ci : int = 0
        · subst ci
          go_enter Tryd.func18, Tryd.ntmps18
          go_wp2_with (first
            | (go_at_call 35; refine (HW.out _).mono ?_; rintro e w1 ⟨rfl, hq⟩; obtain ⟨nq, rfl⟩ := hq; skip)
            | (go_at_call 36; refine (HR.out _).mono ?_; rintro e w2 ⟨rfl, hq⟩; obtain ⟨nr, rfl⟩ := hq)
            | fail)
          go_ret
          refine ⟨?_, ?_⟩
          · rw [(hpl.out _).2 rfl]
            simp <;> omega
          · first | exact (Below.refl _ _).alloc (Nat.le_refl _) _ | exact below_drewN ((Below.refl _ _).alloc (Nat.le_refl _) _) _ | exact below_drewN (below_drewN ((Below.refl _ _).alloc (Nat.le_refl _) _) _) _
        · have ci1 : (int != 0) = true := by simpa using ci
          go_enter Tryd.func18, Tryd.ntmps18
          go_wp2_with (first
            | (go_at_call 35; refine (HW.out _).mono ?_; rintro e w1 ⟨rfl, hq⟩; obtain ⟨nq, rfl⟩ := hq; skip)
            | (go_at_call 36; refine (HR.out _).mono ?_; rintro e w2 ⟨rfl, hq⟩; obtain ⟨nr, rfl⟩ := hq)
            | fail)
          go_ret
          refine ⟨?_, ?_⟩
          · rw [(hpl.out _).2 rfl]
            simp [ci]
          · first | exact (Below.refl _ _).alloc (Nat.le_refl _) _ | exact below_drewN ((Below.refl _ _).alloc (Nat.le_refl _) _) _ | exact below_drewN (below_drewN ((Below.refl _ _).alloc (Nat.le_refl _) _) _) _
      · have ca1 : (arg != 0) = true := by simpa using ca
        go_enter Tryd.func18, Tryd.ntmps18
        go_wp2_with (first
          | (go_at_call 35; refine (HW.out _).mono ?_; rintro e w1 ⟨rfl, hq⟩; obtain ⟨nq, rfl⟩ := hq; skip)
          | (go_at_call 36; refine (HR.out _).mono ?_; rintro e w2 ⟨rfl, hq⟩; obtain ⟨nr, rfl⟩ := hq)
          | fail)
        go_ret
        refine ⟨?_, ?_⟩
        · rw [(hpl.out _).2 rfl]
          simp [ca]
        · first | exact (Below.refl _ _).alloc (Nat.le_refl _) _ | exact below_drewN ((Below.refl _ _).alloc (Nat.le_refl _) _) _ | exact below_drewN (below_drewN ((Below.refl _ _).alloc (Nat.le_refl _) _) _) _
    · by_cases ci : int = 0
      · subst ci
        by_cases ct : text = ⟨#[]⟩
        · subst ct
          by_cases cn : arg < 0
          · go_enter Tryd.func18, Tryd.ntmps18
            go_wp2_with (first
              | (go_at_call 35; refine (HW.out _).mono ?_; rintro e w1 ⟨rfl, hq⟩; obtain ⟨nq, rfl⟩ := hq; skip)
              | (go_at_call 36; refine (HR.out _).mono ?_; rintro e w2 ⟨rfl, hq⟩; obtain ⟨nr, rfl⟩ := hq)
              | fail)
            go_ret
            refine ⟨?_, ?_⟩
            · rw [(hpl.out _).2 rfl]
              simp <;> omega
            · first | exact (Below.refl _ _).alloc (Nat.le_refl _) _ | exact below_drewN ((Below.refl _ _).alloc (Nat.le_refl _) _) _ | exact below_drewN (below_drewN ((Below.refl _ _).alloc (Nat.le_refl _) _) _) _
          · have hop : op ≠ 1 := by intro e; subst e; have := Hm.out; revert this; decide
            have hop1 : (op != 1) = true := by simpa using hop
            have hop2 : (op == 1) = false := by simpa using hop
            go_enter Tryd.func18, Tryd.ntmps18
            go_wp2_with (first
              | (go_at_call 35; refine (HW.out _).mono ?_; rintro e w1 ⟨rfl, hq⟩; obtain ⟨nq, rfl⟩ := hq; skip)
              | (go_at_call 36; refine (HR.out _).mono ?_; rintro e w2 ⟨rfl, hq⟩; obtain ⟨nr, rfl⟩ := hq)
              | fail)
            go_ret
            refine ⟨?_, ?_⟩
            · rw [(hpl.out _).2 rfl]
              simp [hop] <;> omega
            · first | exact (Below.refl _ _).alloc (Nat.le_refl _) _ | exact below_drewN ((Below.refl _ _).alloc (Nat.le_refl _) _) _ | exact below_drewN (below_drewN ((Below.refl _ _).alloc (Nat.le_refl _) _) _) _
        · have ct1 : ¬ text.toList = [] := fun e => ct ((toList_inj _ _).1 (e.trans (by rw [ByteArray.toList_eq])))
          have ct2 : (!text.toList.isEmpty) = true := by simpa using ct1
          have ct3 : (text.toList == []) = false := by simpa using ct1
          have ct4 : (text.toList != []) = true := by simpa using ct1
          clear ct1
          go_enter Tryd.func18, Tryd.ntmps18
          go_wp2_with (first
            | (go_at_call 35; refine (HW.out _).mono ?_; rintro e w1 ⟨rfl, hq⟩; obtain ⟨nq, rfl⟩ := hq; skip)
            | (go_at_call 36; refine (HR.out _).mono ?_; rintro e w2 ⟨rfl, hq⟩; obtain ⟨nr, rfl⟩ := hq)
            | fail)
          go_ret
          refine ⟨?_, ?_⟩
          · rw [(hpl.out _).2 rfl]
            simp [ct]
          · first | exact (Below.refl _ _).alloc (Nat.le_refl _) _ | exact below_drewN ((Below.refl _ _).alloc (Nat.le_refl _) _) _ | exact below_drewN (below_drewN ((Below.refl _ _).alloc (Nat.le_refl _) _) _) _
      · have ci1 : (int != 0) = true := by simpa using ci
        go_enter Tryd.func18, Tryd.ntmps18
        go_wp2_with (first
          | (go_at_call 35; refine (HW.out _).mono ?_; rintro e w1 ⟨rfl, hq⟩; obtain ⟨nq, rfl⟩ := hq; skip)
          | (go_at_call 36; refine (HR.out _).mono ?_; rintro e w2 ⟨rfl, hq⟩; obtain ⟨nr, rfl⟩ := hq)
          | fail)
        go_ret
        refine ⟨?_, ?_⟩
        · rw [(hpl.out _).2 rfl]
          simp [ci]
        · first | exact (Below.refl _ _).alloc (Nat.le_refl _) _ | exact below_drewN ((Below.refl _ _).alloc (Nat.le_refl _) _) _ | exact below_drewN (below_drewN ((Below.refl _ _).alloc (Nat.le_refl _) _) _) _
  · have hpl : plainN ⟨op, arg, int, text⟩ = false := by unfold plainN; simp only [hr, decide_false, Bool.false_and]
    have Hpl := Lib.hid hpl
    clear hpl
    by_cases h1 : op < 1
    · have h1d : decide (op < 1) = true := by simpa using h1
      go_enter Tryd.func18, Tryd.ntmps18
      go_wp2_with (first
        | (go_at_call 35; refine (HW.out _).mono ?_; rintro e w1 ⟨rfl, hq⟩; obtain ⟨nq, rfl⟩ := hq; skip)
        | (go_at_call 36; refine (HR.out _).mono ?_; rintro e w2 ⟨rfl, hq⟩; obtain ⟨nr, rfl⟩ := hq)
        | fail)
      go_ret
      exact ⟨by rw [Hpl.out]; rfl, (Below.refl _ _).alloc (Nat.le_refl _) _⟩
    · have h2 : 40 < op := by omega
      have h1d : decide (op < 1) = false := by simpa using h1
      have h2d : decide (40 < op) = true := by simpa using h2
      go_enter Tryd.func18, Tryd.ntmps18
      go_wp2_with (first
        | (go_at_call 35; refine (HW.out _).mono ?_; rintro e w1 ⟨rfl, hq⟩; obtain ⟨nq, rfl⟩ := hq; skip)
        | (go_at_call 36; refine (HR.out _).mono ?_; rintro e w2 ⟨rfl, hq⟩; obtain ⟨nr, rfl⟩ := hq)
        | fail)
      go_ret
      exact ⟨by rw [Hpl.out]; rfl, (Below.refl _ _).alloc (Nat.le_refl _) _⟩
end Go.Proofs.YtdkoafmgenbkbaaDoor
