/- slices.IndexFunc and slices.DeleteFunc of numbers by a closure that only reads. -/
import Derived.Test.YtikplcpghohklaaGreatIdx2
import Derived.Test.YtikplcpghohklaaGreatOwn
import Derived.Test.YtikplcpghohklaaGreatTree
import Derived.Lib.SliceRun
import Derived.BigFrame
import Derived.WalkMore
namespace Go.Proofs.YtikplcpghohklaaGreat
set_option linter.unusedSimpArgs false
set_option linter.unusedVariables false
open Go.RowKit

set_option maxHeartbeats 1000000 in
theorem idxInt_q {l : List Int} {v : Value} (g : FuncId) (cap : Array Value) (q : Int → Bool) (w w0 : World)
   (hs : SlR w0 w0.heap.size 1 IsInt v l) (hw : Below w0.heap.size w0 w) (hcall : ∀ args w, (callFunc g args).run Tryz.prog w = .ok (.enter g args) w)
   (hclos : ∀ y W, Quiet w W → Calls Tryz.prog g (#[.int .i64 y] ++ cap) W fun e W' => e = .returned (.bool (q y)) ∧ Quiet W W') :
    Calls Tryz.prog 64 #[v, .func (.func g) #[] cap] w fun e w' => e = .returned (.int .i64 (firstAt q l)) ∧ Quiet w w' := by
  obtain ⟨a, c, rfl⟩ : ∃ a c, v = .slice a l.length c := by obtain ⟨a, c, h, _⟩ := hs.form; exact ⟨a, c, h⟩
  have hn : l.length ≤ 9223372036854775807 := by have := hs.caps; unfold maxLen at this; omega
  obtain ⟨n, hlen⟩ : ∃ n, l.length = n := ⟨_, rfl⟩
  rw [hlen] at hs hn ⊢
  have Hlen := Lib.hid hlen
  have Hs := Lib.hid hs
  have Hw := Lib.hid hw
  have H := Lib.hid hclos
  clear hs hlen hw hclos
  go_enter Tryz.func64, Tryz.ntmps64
  go_wp2_with fail
  go_loopw [4, 5, 8] (fun _ _ j wr => ∃ k : Nat, k ≤ n ∧ j = .int .i64 k ∧ Quiet w wr ∧ Hid (∀ i d, i < k → l[i]? = some d → q d = false)) (fun _ _ j _ => n - (intOf j).toNat)
  case atStart => exact ⟨0, Nat.zero_le _, rfl, Quiet.refl _, fun i d hi => by omega⟩
  case round =>
    obtain ⟨k, hk, rfl, hq, hf⟩ := hrel
    have hb := hq.below w.heap.size
    by_cases hlt : k < n
    · obtain ⟨y, hd⟩ := get_some Hlen.out hlt
      have hw1 := Hw.out.trans (hb.mono Hw.out.size)
      obtain ⟨b, off, x, rfl, hbB, hxl, ⟨rfl, _⟩, hx⟩ := (Hs.out.below hw1).at_ hd
      have h0 := hx 0 _ rfl
      simp only [Nat.add_zero, Nat.mul_one] at h0
      have Hd := Lib.hid hd
      have HC := Lib.hid (H.out y wr hq)
      have Hq := Lib.hid hq
      cases hy : q y with
      | true =>
        have Hy := Lib.hid hy
        rw [hy] at HC
        clear hd hx hxl hw1 hy hq
        go_wp2_with (refine HC.out.mono ?_; rintro e w1 ⟨rfl, h1⟩)
        go_ret
        exact ⟨by rw [firstAt_here Hd.out Hy.out hf.out]; rfl, Hq.out.trans h1⟩
      | false =>
        have Hy := Lib.hid hy
        rw [hy] at HC
        clear hd hx hxl hw1 hy hq
        go_wp2_with (refine HC.out.mono ?_; rintro e w1 ⟨rfl, h1⟩)
        go_roundw
        case rel => exact ⟨k + 1, by omega, by go_num, Hq.out.trans h1, so_far1 Hd.out Hy.out hf.out⟩
        case measure => simp [intOf]; omega
    · have hge : n ≤ k := by omega
      clear hlt
      go_wp2_with fail
      go_ret
      exact ⟨by rw [firstAt_none (fun i d hi => hf.out i d (by have := Hlen.out; omega))]; rfl, hq⟩

theorem take_filter_succ {α : Type} {l : List α} {p : α → Bool} {j : Nat} {y : α} (h : l[j]? = some y) : (l.take (j + 1)).filter p = (l.take j).filter p ++ (if p y then [y] else []) := by
  rw [List.take_add_one, h, List.filter_append]
  cases hp : p y <;> simp [hp]
/-- the row's cells while it is gone through: i are kept, j have been looked at -/
structure DelI (l : List Int) (q : Int → Bool) (c i j : Nat) (cs : Array Value) : Prop where
  size : cs.size = c
  len : i = ((l.take j).filter fun d => !q d).length
  kept : ∀ (m : Nat) (d : Int), ((l.take j).filter fun d => !q d)[m]? = some d → cs[m]? = some (.int .i64 d)
  rest : ∀ (m : Nat) (d : Int), j ≤ m → l[m]? = some d → cs[m]? = some (.int .i64 d)
theorem DelI.le {l : List Int} {q : Int → Bool} {c i j : Nat} {cs : Array Value} (h : DelI l q c i j cs) : i ≤ j := by
  rw [h.len]
  exact Nat.le_trans (List.length_filter_le _ _) (by rw [List.length_take]; exact Nat.min_le_left _ _)
theorem DelI.skip {l : List Int} {q : Int → Bool} {c i j : Nat} {cs : Array Value} {d : Int} (h : DelI l q c i j cs) (hd : l[j]? = some d) (hq : q d = true) : DelI l q c i (j + 1) cs := by
  have e := take_filter_succ (p := fun d => !q d) hd
  simp only [hq, Bool.not_true, Bool.false_eq_true, if_false, List.append_nil] at e
  refine ⟨h.size, by rw [e]; exact h.len, fun m x hm => h.kept m x (by rw [← e]; exact hm), fun m x hm hx => h.rest m x (by omega) hx⟩
theorem DelI.take_ {l : List Int} {q : Int → Bool} {c i j : Nat} {cs : Array Value} {d : Int} (h : DelI l q c i j cs) (hd : l[j]? = some d) (hq : q d = false) (hc : l.length ≤ c) : DelI l q c (i + 1) (j + 1) (cs.setIfInBounds i (.int .i64 d)) := by
  have e := take_filter_succ (p := fun d => !q d) hd
  simp only [hq, Bool.not_false, if_true] at e
  have hij := h.le
  have hjl := (List.getElem?_eq_some_iff.1 hd).1
  have hs := h.size
  refine ⟨by simp [h.size], by rw [e, List.length_append, ← h.len]; rfl, fun m x hm => ?_, fun m x hm hx => ?_⟩
  · rw [e] at hm
    rw [Array.getElem?_setIfInBounds]
    rcases Nat.lt_trichotomy m i with hmi | hmi | hmi
    · rw [if_neg (by omega)]
      rw [List.getElem?_append_left (by rw [← h.len]; exact hmi)] at hm
      exact h.kept m x hm
    · subst hmi
      rw [List.getElem?_append_right (by rw [← h.len]; exact Nat.le_refl _), ← h.len] at hm
      simp at hm
      subst hm
      rw [if_pos rfl, if_pos (by omega)]
    · rw [List.getElem?_eq_none (by rw [List.length_append, ← h.len]; simp; omega)] at hm
      cases hm
  · rw [Array.getElem?_setIfInBounds, if_neg (by omega)]
    exact h.rest m x (by omega) hx
theorem zero_i (w : World) : (zeroValue 3).run Tryz.prog w = .ok (.int .i64 0) w := by kernel_rfl

theorem set_grown_ (W : World) (p : Addr) (u : Value) : W.grownBy (W.setCell p u) (some p.block) := ⟨rfl, rfl, rfl, by simp [World.setCell], fun g hg hne => Below.heap_setCell _ _ _ _ (fun e => hne (by rw [e]))⟩
theorem setCells_grown (b : Nat) : ∀ (vs : List Value) (o : Nat) (W : World), W.grownBy (W.setCells b o vs) (some b)
  | [], _, W => World.grownBy.refl W _
  | v :: r, o, W => grown_trans (set_grown_ W ⟨b, o, none⟩ v) (setCells_grown b r (o + 1) _)
theorem Own1.readAt {α : Type} {w W' : World} {base size : Nat} {e : TypeId} {R : List Value → α → Prop} {v : Value} {l : List α} (h : Own1 w base e size R v l) (hs : 0 < size) (hW : ∀ p : Addr, v.ownBlock = some p.block → W'.cell? p = w.cell? p) (hz : w.heap.size ≤ W'.heap.size) : SlR W' W'.heap.size size R v l := by
  obtain ⟨a, c, rfl, h1, h2, h3⟩ := h.read hs
  refine ⟨a, c, rfl, h1, h2, fun hl => ?_⟩
  obtain ⟨b, off, rfl, hb, hc⟩ := h3 hl
  refine ⟨b, off, rfl, Nat.lt_of_lt_of_le hb hz, fun i y hy => ?_⟩
  obtain ⟨x, hx1, hx2, hx3⟩ := hc i y hy
  exact ⟨x, hx1, hx2, fun j u hu => (hW ⟨b, off + i * size + j, none⟩ rfl).trans (hx3 j u hu)⟩
set_option maxRecDepth 100000 in
set_option maxHeartbeats 4000000 in
theorem m_delete {l : List Int} {v : Value} {base : Nat} (g : FuncId) (cap : Array Value) (q : Int → Bool) (w : World)
   (hown : Own1 w base 3 1 IsInt v l) (hcall : ∀ args w, (callFunc g args).run Tryz.prog w = .ok (.enter g args) w)
   (hclos : ∀ y W, w.grownBy W v.ownBlock → Calls Tryz.prog g (#[.int .i64 y] ++ cap) W fun e W' => e = .returned (.bool (q y)) ∧ Quiet W W') :
    Calls Tryz.prog 33 #[v, .func (.func g) #[] cap] w fun e w' => (∃ (a : Option Addr) (n c : Nat), e = .returned (.slice a n c) ∧ ∀ W' : World, (∀ p : Addr, v.ownBlock = some p.block → W'.cell? p = w'.cell? p) → w'.heap.size ≤ W'.heap.size → SlR W' W'.heap.size 1 IsInt (.slice a n c) (l.filter fun d => !q d)) ∧ w.grownBy w' v.ownBlock := by
  have HX := Lib.hid (fun W (hW : Quiet w W) => idxInt_q g cap q W w (hown.read (by omega)) (hW.below _) hcall (fun y W2 h2 => hclos y W2 (grown_of_below _ ((hW.trans h2).below _))))
  have hfst : firstAt q l = -1 → (l.filter fun d => !q d) = l := by
    intro h
    rw [List.filter_eq_self]
    intro d hd
    cases hq : q d with
    | false => rfl
    | true =>
      have := firstAt_any q l
      rw [h] at this
      have h2 : l.any q = true := List.any_eq_true.2 ⟨d, hd, hq⟩
      rw [h2] at this
      cases this
  obtain ⟨a, c, rfl⟩ := hown.form
  have hrd := hown.read (by omega)
  have hcap := hrd.caps
  have hn63 : l.length ≤ 9223372036854775807 := by unfold maxLen at hcap; omega
  have hc63 : c ≤ 9223372036854775807 := by unfold maxLen at hcap; omega
  by_cases hno : firstAt q l = -1
  · have Hno := Lib.hid hno
    have Hf := Lib.hid (hfst hno)
    have Ho := Lib.hid hown
    clear hfst hrd hown hclos hcap
    rw [hno] at HX
    clear hno
    go_enter Tryz.func33, Tryz.ntmps33
    go_wp2_with (go_at_call 64; refine (HX.out _ (Quiet.refl _)).mono ?_; rintro e w1 ⟨rfl, q1⟩)
    go_ret
    refine ⟨⟨a, l.length, c, rfl, fun W' hW hz => ?_⟩, grown_of_below _ (q1.below _)⟩
    rw [Hf.out]
    exact (Ho.out.below (q1.below _) (Nat.le_refl _)).readAt (by omega) hW hz
  · obtain ⟨k, hk⟩ : ∃ k : Nat, firstAt q l = (k : Int) := by
      unfold firstAt at hno ⊢
      cases h : l.findIdx? q with
      | none => rw [h] at hno; exact absurd rfl hno
      | some i => exact ⟨i, rfl⟩
    have hkk : k < l.length ∧ (∃ d, l[k]? = some d ∧ q d = true) ∧ ∀ i d, i < k → l[i]? = some d → q d = false := by
      unfold firstAt at hk
      cases h : l.findIdx? q with
      | none => rw [h] at hk; simp only at hk; omega
      | some i =>
        rw [h] at hk
        simp only at hk
        obtain rfl : i = k := by omega
        obtain ⟨h0, h1, h2⟩ := List.findIdx?_eq_some_iff_getElem.1 h
        refine ⟨h0, ⟨_, List.getElem?_eq_getElem h0, h1⟩, fun j d hj hd => ?_⟩
        have := h2 j hj
        rw [(List.getElem?_eq_some_iff.1 hd).2] at this
        simpa using this
    obtain ⟨hkl, ⟨dk, hdk, hqk⟩, hbef⟩ := hkk
    obtain ⟨xs, ⟨hxl, hrow⟩, hfl⟩ := hown
    rcases hrow with ⟨hnil, h0⟩ | ⟨gb, cp, cur, hv, hgb, hh, hnc, hcm, hsz, hxs⟩
    · omega
    injection hv with hv1 _ hv3
    subst hv1 hv3
    have hcs : ∀ (m : Nat) (d : Int), l[m]? = some d → cur[m]? = some (.int .i64 d) ∧ (Lit.int .i64 d).wf = true := by
      intro m d hd
      have hm : m < l.length := (List.getElem?_eq_some_iff.1 hd).1
      obtain ⟨h1, h2⟩ := hfl.2 m d hd
      refine ⟨?_, h2⟩
      have h3 : xs[m]? = some (.int .i64 d) := by
        have := congrArg (fun (x : List Value) => x[0]?) h1
        simp only [Nat.mul_one, List.getElem?_cons_zero] at this
        rw [List.getElem?_take_of_lt (by omega), List.getElem?_drop, Nat.add_zero] at this
        exact this
      rw [← hxs, List.getElem?_take_of_lt (by omega)] at h3
      rw [← Array.getElem?_toList]
      exact h3
    have hall : ((l.take k).filter fun d => !q d) = l.take k := by
      rw [List.filter_eq_self]
      intro d hd
      obtain ⟨i, hi⟩ := List.mem_iff_getElem?.1 hd
      have hik : i < k := by have := (List.getElem?_eq_some_iff.1 hi).1; rw [List.length_take] at this; omega
      rw [List.getElem?_take_of_lt hik] at hi
      rw [hbef i d hik hi]; rfl
    have D00 : DelI l q c k k cur := by
      constructor
      · omega
      · rw [hall, List.length_take, Nat.min_eq_left (by omega)]
      · intro m d hm
        rw [hall] at hm
        have hmk : m < k := by have := (List.getElem?_eq_some_iff.1 hm).1; rw [List.length_take] at this; omega
        rw [List.getElem?_take_of_lt hmk] at hm
        exact (hcs m d hm).1
      · intro m d _ hm
        exact (hcs m d hm).1
    have D0 : Hid (DelI l q c k (k + 1) cur) := Lib.hid (D00.skip hdk hqk)
    clear D00
    have Hwf := Lib.hid (fun d (hd : d ∈ l) => by obtain ⟨m, hm⟩ := List.mem_iff_getElem?.1 hd; exact (hcs m d hm).2)
    have hgl : gb < w.heap.size := by
      rcases Nat.lt_or_ge gb w.heap.size with hlt | hge
      · exact hlt
      · rw [Array.getElem?_eq_none hge] at hh; cases hh
    have B0 : Hid (Blk w gb 3 cur) := Lib.hid hh
    have Hcl := Lib.hid hclos
    rw [hk] at HX
    obtain ⟨n, hn⟩ : ∃ n, l.length = n := ⟨_, rfl⟩
    rw [hn] at HX hn63 hkl hnc ⊢
    have Hn := Lib.hid hn
    have Hcm := Lib.hid hcm
    have hkn0 : ((k : Int) == -1) = false := by rw [beq_eq_false_iff_ne]; omega
    clear hcs hall hh hclos hk hno hdk hqk hbef hxl hrd hcap hfst hgb hsz hxs hfl hn hcm
    go_enter Tryz.func33, Tryz.ntmps33
    go_wp2_with (go_at_call 64; (with_reducible refine (HX.out _ (Quiet.refl _)).mono ?_); rintro e w1 ⟨rfl, q1⟩; have Q1 := Lib.hid q1; clear q1)
    have B1 : Hid (Blk w1 gb 3 cur) := Lib.hid (B0.out.below (Q1.out.below w.heap.size) hgl)
    have G1 : Hid (w.grownBy w1 (some gb)) := Lib.hid (grown_of_below _ (Q1.out.below _))
    go_loopw [5, 6, 7] (fun iv jv _ wr => ∃ (i j : Nat) (cs : Array Value), iv = .int .i64 (i : Int) ∧ jv = .int .i64 (j : Int) ∧ i < j ∧ j ≤ n ∧ Hid (Blk wr gb 3 cs) ∧ Hid (DelI l q c i j cs) ∧ Hid (w.grownBy wr (some gb))) (fun _ jv _ _ => n - (intOf jv).toNat)
    case atStart => exact ⟨k, k + 1, cur, rfl, by go_num, by omega, by omega, B1, D0, G1⟩
    case round =>
      obtain ⟨i, j, cs, rfl, rfl, hij, hjn, hB, hD, hG⟩ := hrel
      by_cases hlt : j < n
      · obtain ⟨d, hd⟩ := get_some Hn.out hlt
        have h0 : wr.cell? ⟨gb, j, none⟩ = some (.int .i64 d) := hB.out.cell (hD.out.rest j d (Nat.le_refl _) hd)
        have Hd := Lib.hid hd
        have hics : i < cs.size := by rw [hD.out.size]; omega
        have h1 : wr.cell? ⟨gb, i, none⟩ = some (cs[i]'hics) := hB.out.cell (Array.getElem?_eq_getElem hics)
        have hfz := hB.out.frozen i
        have HC := Lib.hid (Hcl.out d wr hG.out)
        have HB := hB
        have HD := hD
        have HG := hG
        cases hq : q d with
        | true =>
          have Hq := Lib.hid hq
          rw [hq] at HC
          clear hd hq hB hD hG h1 hfz hics
          go_wp2_with (refine HC.out.mono ?_; rintro e w2 ⟨rfl, q2⟩; have Q2 := Lib.hid q2; clear q2)
          go_roundw
          case rel => exact ⟨i, j + 1, cs, rfl, by go_num, by omega, by omega, Lib.hid (HB.out.below (Q2.out.below _) HB.out.lt), Lib.hid (HD.out.skip Hd.out Hq.out), Lib.hid (grown_trans HG.out (grown_of_below _ (Q2.out.below _)))⟩
          case measure => simp [intOf]; omega
        | false =>
          have Hq := Lib.hid hq
          rw [hq] at HC
          obtain ⟨u, hu⟩ : ∃ u, cs[i]'hics = u := ⟨_, rfl⟩
          rw [hu] at h1
          have hcells : ∀ (W : World), Quiet wr W → W.cell? ⟨gb, i, none⟩ = some u ∧ W.frozen? ⟨gb, i, none⟩ = false := by
            rintro W ⟨m, rfl⟩
            exact ⟨h1, hfz⟩
          have HCe := Lib.hid hcells
          clear hd hq hB hD hG h1 hfz hu hics hcells
          go_wp2_with (refine HC.out.mono ?_; rintro e w2 ⟨rfl, q2⟩; obtain ⟨g1, g2⟩ := HCe.out w2 q2; have Q2 := Lib.hid q2; clear q2)
          go_roundw
          case rel => exact ⟨i + 1, j + 1, _, by go_num, by go_num, by omega, by omega, Lib.hid ((HB.out.below (Q2.out.below _) HB.out.lt).set_ i _), Lib.hid (HD.out.take_ Hd.out Hq.out (by rw [Hn.out]; exact hnc)), Lib.hid (grown_trans (grown_trans HG.out (grown_of_below _ (Q2.out.below _))) (set_grown_ _ _ _))⟩
          case measure => simp [intOf]; omega
      · obtain rfl : n = j := by omega
        have hsz := hD.out.size
        have hcl : ∀ ty, (Builtin.clear_ #[25] ty #[.slice (some ⟨gb, i, none⟩) (n - i) (c - i)]).run Tryz.prog wr = .ok (.tuple #[]) (wr.setCells gb i (List.replicate (n - i) (.int .i64 0))) :=
          fun ty => Lib.run_clear_slice wr _ _ ty _ Tryz.underlying25 zero_i rfl rfl gb i _ _ (by omega) (fun m hm => by rw [hB.out.cell (Array.getElem?_eq_getElem (show i + m < cs.size by omega))]; rfl) (fun m hm => hB.out.frozen _)
        have HB := hB
        have HD := hD
        have HG := hG
        clear hB hD hG hlt hsz
        go_wp2_with (simp only [hcl])
        go_ret
        have hin : i ≤ n := by omega
        have hgr : w.grownBy (wr.setCells gb i (List.replicate (n - i) (.int .i64 0))) (some gb) := grown_trans HG.out (setCells_grown gb _ _ _)
        have hlen : i = (l.filter fun d => !q d).length := by rw [HD.out.len, List.take_of_length_le (by rw [Hn.out]; exact Nat.le_refl _)]
        refine ⟨⟨some ⟨gb, 0, none⟩, i, c, rfl, fun W' hW hz => ?_⟩, hgr⟩
        refine ⟨some ⟨gb, 0, none⟩, c, by rw [← hlen], by rw [← hlen]; omega, Hcm.out, fun _ => ⟨gb, 0, rfl, Nat.lt_of_lt_of_le hgl (Nat.le_trans hgr.size hz), fun m y hm => ⟨[.int .i64 y], rfl, ⟨rfl, ?_⟩, fun r u hu => ?_⟩⟩⟩
        · exact Hwf.out y ((List.mem_filter.1 (List.mem_iff_getElem?.2 ⟨m, hm⟩)).1)
        · have hmi : m < i := by rw [hlen]; exact (List.getElem?_eq_some_iff.1 hm).1
          rcases r with _ | r
          · simp at hu
            subst hu
            rw [hW ⟨gb, 0 + m * 1 + 0, none⟩ rfl, World.cell?_setCells_out gb _ _ _ _ (fun _ _ => .inl (by simp; omega))]
            have := HD.out.kept m y (by rw [List.take_of_length_le (by rw [Hn.out]; exact Nat.le_refl _)]; exact hm)
            have := HB.out.cell this
            simpa using this
          · simp at hu
end Go.Proofs.YtikplcpghohklaaGreat
