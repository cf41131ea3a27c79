/- expr.Print: an expression's text. -/
import Derived.Test.YtlenenfgedgmhaaDoorTl2
namespace Go.Proofs.YtlenenfgedgmhaaDoor
set_option linter.unusedSimpArgs false
set_option linter.unusedVariables false
open Go.RowKit

/-- the texts' lengths together -/
def sumT : List ND → Nat
  | [] => 0
  | d :: l => d.text.length + sumT l
/-- P8.3 -/
def printE (l : List ND) : List Nat × Nat :=
  if rightE l ≠ 0 then ([], rightE l)
  else if 4096 < sumT l then ([], 3)
  else if 4096 < (tellN l l.length 0 0).length then ([], 3) else (tellN l l.length 0 0, 0)
theorem kids_len {g : Nat → Option (Nat × Nat)} {T : Nat → Nat → List Nat} (hg : ∀ (y : Nat) (x : Nat × Nat), g y = some x → y < x.2 ∧ ∀ t, (T y t).length ≤ 20000 * (x.2 - y)) (d : ND) : ∀ (n dp : Nat) (r : Nat × Nat), metL g d.kids n dp = some r → n ≤ r.2 ∧ ∀ t0 t1 t2, (kidT T d 0 t0).length + (kidT T d 1 t1).length + (kidT T d 2 t2).length ≤ 20000 * (r.2 - n) := by
  have mono : ∀ (ks : List Int) (n dp : Nat) (r : Nat × Nat), metL g ks n dp = some r → n ≤ r.2 := by
    intro ks
    induction ks with
    | nil => intro n dp r h; simp only [metL] at h; injection h with h; subst h; exact Nat.le_refl _
    | cons k ks ih =>
      intro n dp r h
      simp only [metL] at h
      split at h
      · split at h
        · cases h
        · rename_i x hx
          have := ih _ _ _ h
          have := (hg n x hx).1
          omega
      · cases h
  obtain ⟨kd, s, nm, ks⟩ := d
  intro n dp r h
  refine ⟨mono _ _ _ _ h, fun t0 t1 t2 => ?_⟩
  simp only at h
  unfold kidT
  simp only
  rcases ks with _ | ⟨k0, ks⟩
  · simp
  simp only [metL] at h
  split at h
  · rename_i e0
    split at h
    · cases h
    · rename_i x0 hx0
      obtain ⟨l0, c0⟩ := hg n x0 hx0
      have b0 := c0 t0
      have m0 := mono _ _ _ _ h
      subst e0
      rcases ks with _ | ⟨k1, ks⟩
      · simp; omega
      simp only [metL] at h
      split at h
      · rename_i e1
        split at h
        · cases h
        · rename_i x1 hx1
          obtain ⟨l1, c1⟩ := hg x0.2 x1 hx1
          have b1 := c1 t1
          have m1 := mono _ _ _ _ h
          subst e1
          rcases ks with _ | ⟨k2, ks⟩
          · simp; omega
          simp only [metL] at h
          split at h
          · rename_i e2
            split at h
            · cases h
            · rename_i x2 hx2
              obtain ⟨l2, c2⟩ := hg x1.2 x2 hx2
              have b2 := c2 t2
              have m2 := mono _ _ _ _ h
              subst e2
              simp
              omega
          · cases h
      · cases h
  · cases h
theorem may_text {d : ND} (h : mayE d = true) : d.text.length ≤ 4096 := by
  obtain ⟨k, s, nm, ks⟩ := d
  rw [mayE_def, Bool.and_eq_true] at h
  have h2 := h.2
  by_cases hin : k ∈ namedL
  · rw [if_pos hin] at h2
    unfold plainN at h2
    rw [Bool.and_eq_true] at h2
    have := right_len h2.1
    simp only
    omega
  · rw [if_neg hin, Bool.or_eq_true, Bool.and_eq_true] at h2
    simp only
    rcases h2 with h2 | h2
    · rw [of_decide_eq_true h2]; simp
    · exact of_decide_eq_true h2.2
theorem quote_len4 {s : List Nat} (h : s.length ≤ 4096) : (quoteN s).length ≤ 16386 := by
  unfold quoteN
  have := flat_len s
  simp only [List.length_cons, List.length_append, List.length_nil]
  omega
theorem body_len {T : Nat → Nat → List Nat} {d : ND} (hm : d.text.length ≤ 4096) (hn : NdOk d) {K : Nat} (hk : ∀ t0 t1 t2, (kidT T d 0 t0).length + (kidT T d 1 t1).length + (kidT T d 2 t2).length ≤ K) : (bodyT T d).length ≤ K + 16400 := by
  have hq := quote_len4 hm
  have hs := showN_len hn.2.2.1 hn.2.2.2
  have hmk := (mark_len d.kind).1
  have hwd := (word_len d.kind).1
  unfold bodyT
  have k1 := hk 7 0 0
  have k2 := hk 3 0 0
  have k3 := hk (if levelN d.kind = 4 then 5 else levelN d.kind) (levelN d.kind + 1) 0
  have k5 := hk 5 (levelN d.kind + 1) 0
  have k6 := hk (levelN d.kind) (levelN d.kind + 1) 0
  have k4 := hk 0 0 0
  clear k3 hk
  repeat' split
  all_goals ((try simp only [List.length_append, List.length_cons, List.length_nil]); omega)
theorem tell_len (l : List ND) (hok : ∀ d ∈ l, NdOk d) : ∀ (f m t : Nat) (r : Nat × Nat), metN l f m = some r → (tellN l f m t).length ≤ 20000 * (r.2 - m)
  | 0, m, t, r, h => by simp only [metN] at h; cases h
  | f + 1, m, t, r, h => by
    simp only [metN] at h
    simp only [tellN]
    cases hd : l[m]? with
    | none => rw [hd] at h; cases h
    | some d =>
      rw [hd] at h
      simp only at h ⊢
      by_cases hm : mayE d = true
      · rw [if_pos hm] at h
        obtain ⟨x, hx, rfl⟩ := Option.map_eq_some_iff.1 h
        obtain ⟨h1, h2⟩ := kids_len (T := tellN l f) (fun y x hx => ⟨(metN_in l f y x hx).1, fun t => tell_len l hok f y t x hx⟩) d (m + 1) 0 x hx
        have hb := body_len (may_text hm) (hok d (List.mem_iff_getElem?.2 ⟨m, hd⟩)) h2
        simp only
        split
        · simp only [List.length_append, List.length_cons, List.length_nil]
          omega
        · omega
      · rw [if_neg hm] at h; cases h
theorem right_met {l : List ND} (h : rightE l = 0) : l.length ≤ 256 ∧ ∃ r, metN l l.length 0 = some r ∧ r.2 = l.length ∧ r.1 ≤ 32 := by
  unfold rightE at h
  split at h
  · cases h
  · rename_i hl
    refine ⟨by omega, ?_⟩
    cases hr : metN l l.length 0 with
    | none => rw [hr] at h; cases h
    | some r =>
      rw [hr] at h
      simp only at h
      split at h
      · cases h
      · rename_i h2
        split at h
        · cases h
        · exact ⟨r, rfl, by omega, by omega⟩
theorem sumT_bound {l : List ND} (h : ∀ d ∈ l, d.text.length ≤ 140737488355328) : sumT l ≤ l.length * 140737488355328 := by
  induction l with
  | nil => simp [sumT]
  | cons d l ih =>
    have h1 := h d (by simp)
    have h2 := ih (fun x hx => h x (by simp [hx]))
    simp only [sumT, List.length_cons]
    omega
theorem sumT_take {l : List ND} {j : Nat} {d : ND} (h : l[j]? = some d) : sumT (l.take (j + 1)) = sumT (l.take j) + d.text.length := by
  have app : ∀ (a b : List ND), sumT (a ++ b) = sumT a + sumT b := by
    intro a b
    induction a with
    | nil => simp [sumT]
    | cons x a ih => simp only [List.cons_append, sumT, ih]; omega
  rw [take_snoc1 h, app]
  simp [sumT]
set_option maxRecDepth 100000 in
set_option maxHeartbeats 8000000 in
theorem print_e {l : List ND} {v : Value} (w w0 : World) (hs : SlR w0 w0.heap.size 4 (ND.Is w0 w0.heap.size) v l) (hok : ∀ d ∈ l, NdOk d) (hm : Marks w0) (hp : Pow w0) (hg : Signs w0) (hw : Below w0.heap.size w0 w) :
    Calls Tryd.prog 14 #[.agg #[v]] w fun e w' => e = .returned (.tuple #[.string (txt (printE l).1), .int .i64 ((printE l).2 : Int)]) ∧ Below w.heap.size w w' := by
  obtain ⟨a, c, rfl⟩ : ∃ a c, v = .slice a l.length c := by obtain ⟨a, c, h, _⟩ := hs.form; exact ⟨a, c, h⟩
  have hn63 : l.length ≤ 9223372036854775807 := by have := hs.caps; unfold maxLen at this; omega
  have RT := Lib.hid (fun Y (hY : Below w.heap.size w Y) => right_e Y w0 hs hok hm hp (hw.trans (hY.mono hw.size)))
  have B0 : Hid (Below w.heap.size w (w.alloc (.cells #[.slice a l.length c] 24))) := Lib.hid ((Below.refl _ _).alloc (Nat.le_refl _) _)
  have K0 : Hid (Blk (w.alloc (.cells #[.slice a l.length c] 24)) w.heap.size 24 #[.slice a l.length c]) := Lib.hid (Blk.new _ _ _)
  obtain ⟨R, hR⟩ : ∃ R, printE l = R := ⟨_, rfl⟩
  rw [hR]
  unfold printE at hR
  obtain ⟨rt, hrt⟩ : ∃ z, rightE l = z := ⟨_, rfl⟩
  rw [hrt] at RT hR
  by_cases h0 : rt = 0
  rotate_left
  · rw [if_pos h0] at hR
    subst hR
    have e1 : ((rt : Int) != 0) = true := by simpa using h0
    clear hs hok hm hp hg hw hrt h0
    go_enter Tryd.func14, Tryd.ntmps14
    go_wp2_with (first
      | (go_at_call 18; refine (RT.out _ B0.out).mono ?_; rintro e w1 ⟨rfl, b1⟩; have B1 := Lib.hid (B0.out.trans (b1.mono B0.out.size)); clear b1))
    go_ret2
    exact ⟨rfl, B1.out⟩
  subst h0
  rw [if_neg (by simp)] at hR
  obtain ⟨hle, r, hr, hr2, _⟩ := right_met hrt
  have hlen := tell_len l hok l.length 0 0 r hr
  have TL := Lib.hid (tell_all w0 l a l.length c hs hok hg hp l.length)
  have HRR := Lib.hid hr
  have HLEN : Hid ((tellN l l.length 0 0).length ≤ 5120000) := Lib.hid (by omega)
  have HS := Lib.hid hs
  have HW := Lib.hid hw
  have HOK := Lib.hid hok
  obtain ⟨n, hn⟩ : ∃ n, l.length = n := ⟨_, rfl⟩
  have HN := Lib.hid hn
  have HR := Lib.hid hR
  rw [hn] at hn63 hle B0 K0 RT TL ⊢
  clear hs hok hm hp hg hw hrt hr hr2 hlen hn hR
  go_enter Tryd.func14, Tryd.ntmps14
  go_wp2_with (first
    | (go_at_call 18; refine (RT.out _ B0.out).mono ?_; rintro e w1 ⟨rfl, b1⟩; have B1 := Lib.hid (B0.out.trans (b1.mono B0.out.size)); have c1 : w1.cell? ⟨w.heap.size, 0, none⟩ = some (.slice a n c) := (K0.out.below b1 K0.out.lt).cell rfl; have KB1 := Lib.hid (K0.out.below b1 K0.out.lt); clear b1))
  clear RT c1
  go_loopw [5, 7, 17] (fun sv _ jv wr => ∃ j : Nat, j ≤ n ∧ sv = .int .i64 (sumT (l.take j) : Int) ∧ jv = .int .i64 (j : Int) ∧ Hid (Below w1.heap.size w1 wr)) (fun _ _ jv _ => n - (intOf jv).toNat)
  case atStart => exact ⟨0, Nat.zero_le _, by simp [sumT], by go_num, Lib.hid (Below.refl _ _)⟩
  case round =>
    obtain ⟨j, hj, rfl, rfl, hb⟩ := hrel
    have j0 : (0 : Int) ≤ (j : Int) := Int.natCast_nonneg _
    have hsum : sumT (l.take j) ≤ 36028797018963968 := by
      have h1 := sumT_bound (l := l.take j) (fun d hd => (HOK.out d (List.mem_of_mem_take hd)).2.1)
      have h2 : (l.take j).length ≤ 256 := by rw [List.length_take]; omega
      exact Nat.le_trans h1 (Nat.le_trans (Nat.mul_le_mul_right _ h2) (by decide))
    have s0 : (0 : Int) ≤ (sumT (l.take j) : Int) := Int.natCast_nonneg _
    have s63 : (sumT (l.take j) : Int) ≤ 36028797018963968 := by omega
    by_cases hlt : j < n
    · obtain ⟨d, hd⟩ := get_some HN.out hlt
      have hsd := sumT_take hd
      have hdl := (HOK.out d (List.mem_iff_getElem?.2 ⟨j, hd⟩)).2.1
      have hwr : Below w0.heap.size w0 wr := HW.out.trans ((B1.out.mono HW.out.size).trans (hb.out.mono (by have := HW.out.size; have := B1.out.size; omega)))
      obtain ⟨bN, off, x, rfl, hbN, _, ⟨kv, rfl, hks⟩, hx⟩ := (HS.out.below hwr).at_ hd
      obtain ⟨ka, kc, rfl, _⟩ := hks.form
      have c0 := hx 0 _ rfl
      have c1 := hx 1 _ rfl
      have c2 := hx 2 _ rfl
      have c3 := hx 3 _ rfl
      simp only [Nat.add_zero] at c0
      have HSD := Lib.hid hsd
      obtain ⟨tl, htl⟩ : ∃ z, d.text.length = z := ⟨_, rfl⟩
      have tz : ((txt d.text).size : Int) = (tl : Int) := by rw [txt_size, htl]
      rw [htl] at hdl
      have HTL := Lib.hid htl
      have tl5 : (tl : Int) ≤ 140737488355328 := by omega
      have BN : Hid (Below w1.heap.size w1 (wr.alloc (.cells #[.int .i64 d.kind, .string (txt d.text), .int .i64 d.num, .slice ka d.kids.length kc] 46))) := Lib.hid (hb.out.alloc hb.out.size _)
      clear hd hsd hx hks hwr htl hsum
      go_wp2_with fail
      go_roundw
      case rel => exact ⟨j + 1, by omega, by rw [HSD.out, HTL.out]; go_num, by go_num, BN⟩
      case measure => simp [intOf]; omega
    · obtain rfl : j = n := by omega
      have htk : l.take j = l := List.take_of_length_le (by rw [HN.out]; exact Nat.le_refl _)
      rw [htk]
      rw [htk] at s0 s63
      obtain ⟨sm, hsm⟩ : ∃ z, sumT l = z := ⟨_, rfl⟩
      have hRR := HR.out
      rw [hsm] at hRR s0 s63 ⊢
      have BW : Hid (Below w.heap.size w wr) := Lib.hid (B1.out.trans (hb.out.mono B1.out.size))
      have djj : decide (j < j) = false := by simp
      by_cases hbig : 4096 < sm
      · rw [if_pos hbig] at hRR
        subst hRR
        have d1 : decide ((4096 : Int) < (sm : Int)) = true := by simp; omega
        have d2 : decide (4096 < sm) = true := by simpa using hbig
        clear hsm htk hsum hbig hlt
        go_wp2_with fail
        go_ret2
        exact ⟨rfl, BW.out⟩
      · rw [if_neg hbig] at hRR
        have d1 : decide ((4096 : Int) < (sm : Int)) = false := by simp; omega
        have d2 : decide (4096 < sm) = false := by simpa using hbig
        have e0 : wr.cell? ⟨w.heap.size, 0, none⟩ = some (.slice a j c) := (KB1.out.below hb.out KB1.out.lt).cell rfl
        have lw : w.heap.size < wr.heap.size := cell_lt e0
        have hB : w0.heap.size ≤ wr.heap.size := by have := HW.out.size; have := BW.out.size; omega
        have hwr : Below w0.heap.size w0 wr := HW.out.trans (BW.out.mono HW.out.size)
        have TT := Lib.hid (TL.out wr.heap.size wr.heap.size 0 0 (wr.alloc (.cells #[.pointer none, .slice none 0 0] 75)) [] ⟨r, by have h9 := HRR.out; rw [HN.out] at h9; exact h9⟩ (by omega) (BuiltSt.new wr) (by rw [World.size_alloc]; omega) hB (hwr.alloc hB _) (by have := HLEN.out; rw [HN.out] at this; simp; omega))
        obtain ⟨tx, htx⟩ : ∃ z, tellN l j 0 0 = z := ⟨_, rfl⟩
        rw [htx] at TT
        rw [List.nil_append] at TT
        rw [HN.out, htx] at hRR
        have htl : tx.length ≤ 5120000 := by rw [← htx]; have := HLEN.out; rw [HN.out] at this; exact this
        have BA : Hid (Below w.heap.size w (wr.alloc (.cells #[.pointer none, .slice none 0 0] 75))) := Lib.hid (BW.out.alloc (Nat.le_of_lt lw) _)
        have t5 : (tx.length : Int) ≤ 5120000 := by omega
        have HRR2 := Lib.hid hRR
        clear hsm htk hsum hbig hlt htx hRR hwr htl
        obtain ⟨tn, htn⟩ : ∃ z, tx.length = z := ⟨_, rfl⟩
        have HTN := Lib.hid htn
        rw [htn] at t5
        by_cases hlong : 4096 < tn
        · have d3 : decide ((4096 : Int) < (tn : Int)) = true := by simp; omega
          have d4 : decide (4096 < tn) = true := by simpa using hlong
          have hv : R = ([], 3) := by rw [← HRR2.out, if_pos (by rw [HTN.out]; exact hlong)]
          subst hv
          clear htn hlong
          go_wp2_with (first
            | (go_at_call 30; refine TT.out.mono ?_; rintro e w2 ⟨rfl, s2, b2, _⟩; have S2 := Lib.hid (And.intro s2 (BA.out.trans (b2.mono (Nat.le_of_lt lw)))); clear s2 b2)
            | (go_at_call 31; refine (built_len S2.out.1).mono ?_; rw [HTN.out]; rintro e w3 ⟨rfl, rfl⟩))
          go_ret2
          exact ⟨rfl, S2.out.2⟩
        · have d3 : decide ((4096 : Int) < (tn : Int)) = false := by simp; omega
          have d4 : decide (4096 < tn) = false := by simpa using hlong
          have hv : R = (tx, 0) := by rw [← HRR2.out, if_neg (by rw [HTN.out]; exact hlong)]
          subst hv
          clear htn hlong
          go_wp2_with (first
            | (go_at_call 30; refine TT.out.mono ?_; rintro e w2 ⟨rfl, s2, b2, _⟩; have S2 := Lib.hid (And.intro s2 (And.intro (BA.out.trans (b2.mono (Nat.le_of_lt lw))) (Nat.le_trans (Nat.le_succ _) (by have := b2.size; rw [World.size_alloc] at this; exact this)))); clear s2 b2)
            | (go_at_call 31; refine (built_len S2.out.1).mono ?_; rw [HTN.out]; rintro e w3 ⟨rfl, rfl⟩)
            | (go_at_call 32; refine (built_text S2.out.1 S2.out.2.2).mono ?_; rintro e w4 ⟨rfl, b4⟩; have B4 := Lib.hid (S2.out.2.1.trans (b4.mono (Nat.le_of_lt lw))); clear b4))
          go_ret2
          exact ⟨rfl, B4.out⟩
end Go.Proofs.YtlenenfgedgmhaaDoor
