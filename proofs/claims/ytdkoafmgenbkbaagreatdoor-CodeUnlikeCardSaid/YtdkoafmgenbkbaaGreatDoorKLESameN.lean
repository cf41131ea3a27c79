/- - -/
import Derived.Test.YtdkoafmgenbkbaaGreatDoorKLESame8
set_option maxRecDepth 100000
set_option maxHeartbeats 32000000
set_option linter.unusedSimpArgs false
set_option linter.unusedVariables false
namespace Go.Proofs.YtdkoafmgenbkbaaGreatDoor
open Go.RowKit
def ndK (d : ND) : Int × ByteArray × Int × List Int := (d.kind, txt d.text, d.num, d.kids)
theorem nd_ne_at {l m : List ND} {k : Nat} {x y : ND} (hx : l[k]? = some x) (hy : m[k]? = some y) (h : ndK x ≠ ndK y) : ¬ l.map ndK = m.map ndK := fun e => by
  have := congrArg (fun z => z[k]?) e
  simp only [List.getElem?_map, hx, hy, Option.map_some] at this
  injection this with this
  exact h this
theorem nd_eq_all {l m : List ND} (hl : l.length = m.length) (h : ∀ i x y, i < l.length → l[i]? = some x → m[i]? = some y → ndK x = ndK y) : l.map ndK = m.map ndK := by
  apply List.ext_getElem?
  intro i
  rw [List.getElem?_map, List.getElem?_map]
  rcases Nat.lt_or_ge i l.length with hi | hi
  · have h1 := List.getElem?_eq_getElem hi
    have h2 := List.getElem?_eq_getElem (show i < m.length by omega)
    rw [h1, h2]
    exact congrArg some (h i _ _ hi h1 h2)
  · rw [List.getElem?_eq_none hi, List.getElem?_eq_none (by omega)]
theorem ref8_any {l m : List ND} {v v' : Value} (w w0 : World) (hs : SlR w0 w0.heap.size 4 (ND.Is w0 w0.heap.size) v l) (ht : SlR w0 w0.heap.size 4 (ND.Is w0 w0.heap.size) v' m) (hw : Below w0.heap.size w0 w) :
    Calls Tryz.prog 15 #[.agg #[v], .agg #[v']] w fun e w' => e = .returned (.bool (decide (l.map ndK = m.map ndK))) ∧ Below w.heap.size w w' := by
  obtain ⟨a, c, rfl⟩ : ∃ a c, v = .slice a l.length c := by obtain ⟨a, c, h, _⟩ := hs.form; exact ⟨a, c, h⟩
  obtain ⟨a', c', rfl⟩ : ∃ a c, v' = .slice a m.length c := by obtain ⟨a, c, h, _⟩ := ht.form; exact ⟨a, c, h⟩
  have hn : l.length ≤ 9223372036854775807 := by have := hs.caps; unfold maxLen at this; omega
  obtain ⟨R, hR⟩ : ∃ R, decide (l.map ndK = m.map ndK) = R := ⟨_, rfl⟩
  rw [hR]
  have HR := zH hR
  clear hR
  have BX : Hid (Below w.heap.size w ((w.alloc (.cells #[.slice a l.length c] 37)).alloc (.cells #[.slice a' m.length c'] 37))) := zH ((zB.alloc zL _).alloc (by rw [World.size_alloc]; omega) _)
  by_cases hl : l.length = m.length
  · obtain ⟨n, hlen⟩ : ∃ n, l.length = n := ⟨_, rfl⟩
    rw [← hl] at ht BX ⊢
    rw [hlen] at hs ht hn BX ⊢
    have Hlen := zH hlen
    have Hl := zH hl
    have Hs := zH hs
    have Ht := zH ht
    have Hw := zH hw
    clear hs ht hlen hw hl
    go_enter Tryz.func15, Tryz.ntmps15
    go_wp2_with fail
    generalize hwq : World.alloc (World.alloc _ _) _ = W1
    obtain ⟨g, hg⟩ : ∃ g, w.heap.size = g := ⟨_, rfl⟩
    have bA : Blk W1 g 37 #[.slice a n c] := by rw [← hwq, ← hg]; exact (Blk.new _ _ _).alloc _
    have bB : Blk W1 (g + 1) 37 #[.slice a' n c'] := by rw [← hwq, ← hg]; exact Blk.new_ (by rw [World.size_alloc]) _ _
    have B1 : Hid (Below g w W1) := zH (by rw [← hwq, ← hg]; exact BX.out)
    have BA := zH bA
    have BB := zH bB
    have HG := zH hg
    rw [hg]
    clear hwq bA bB BX hg
    go_loopw [5, 6, 7, 8] (fun j _ _ _ wr => ∃ k : Nat, k ≤ n ∧ j = .int .i64 (k : Int) ∧ Hid (Below W1.heap.size W1 wr) ∧ Hid (∀ i y z, i < k → l[i]? = some y → m[i]? = some z → ndK y = ndK z)) (fun j _ _ _ _ => n - (intOf j).toNat)
    case atStart => exact ⟨0, Nat.zero_le _, rfl, zB, fun i d _ hi => by omega⟩
    case round =>
      obtain ⟨k, hk, rfl, hb, hf⟩ := hrel
      have c1 : (0 : Int) ≤ (k : Int) := Int.natCast_nonneg _
      have q0 : wr.cell? ⟨g, 0, none⟩ = some (.slice a n c) := (BA.out.below hb.out BA.out.lt).cell rfl
      have q1 : wr.cell? ⟨g + 1, 0, none⟩ = some (.slice a' n c') := (BB.out.below hb.out BB.out.lt).cell rfl
      by_cases hlt : k < n
      · obtain ⟨⟨yk, yt, yn, yks⟩, hd⟩ := get_some Hlen.out hlt
        obtain ⟨⟨zk, zt, zn, zks⟩, he⟩ := get_some (Hl.out.symm.trans Hlen.out) hlt
        have hw1 : Below w0.heap.size w0 wr := (Hw.out.trans (B1.out.mono (by rw [← HG.out]; exact Hw.out.size))).trans (hb.out.mono (by have := B1.out.size; have := Hw.out.size; omega))
        obtain ⟨b, off, x, rfl, hbB, hxl, ⟨kv, rfl, hks⟩, hx⟩ := (Hs.out.below hw1).at_ hd
        obtain ⟨b', off', x', rfl, hbB', hxl', ⟨kv', rfl, hks'⟩, hx'⟩ := (Ht.out.below hw1).at_ he
        simp only at hks hks' hx hx'
        obtain ⟨ya, yc, rfl, _⟩ := hks.form
        obtain ⟨za, zc, rfl, _⟩ := hks'.form
        have h0 := hx 0 _ rfl
        have h1 := hx 1 _ rfl
        have h2 := hx 2 _ rfl
        have h3 := hx 3 _ rfl
        have g0 := hx' 0 _ rfl
        have g1 := hx' 1 _ rfl
        have g2 := hx' 2 _ rfl
        have g3 := hx' 3 _ rfl
        simp only [Nat.add_zero] at h0 g0
        have Hd := zH hd
        have He := zH he
        have HY := zH (hks.below hw1)
        have HZ := zH (hks'.below hw1)
        have djk : decide (k < n) = true := by simpa using hlt
        have djk2 : (k : Int) < (n : Int) := by omega
        clear hd he hx hxl hx' hxl' hks hks'
        go_wp2_with fail
        have n0 := World.new_ne wr _ q0
        have n1 := World.new_ne wr _ q1
        have n2 := World.new_ne wr _ h0
        have n3 := World.new_ne wr _ g0
        refine' region_split2 (fun b1 b2 w6 => Blk w6 b1 45 #[.int .i64 (yk : Int), .string (txt yt), .int .i64 yn, .slice ya yks.length yc] ∧ Blk w6 b2 45 #[.int .i64 (zk : Int), .string (txt zt), .int .i64 zn, .slice za zks.length zc] ∧ Below wr.heap.size wr w6) _ ?_ ?_
        rotate_left
        · intro key
          have KEY := zH key
          clear key
          go_region_held3 (fun w' => w'.cell? ⟨g, 0, none⟩ = some (.slice (some ⟨b, off, none⟩) n c) ∧ w'.cell? ⟨g + 1, 0, none⟩ = some (.slice (some ⟨b', off', none⟩) n c') ∧ w'.cell? ⟨b, off + k * 4, none⟩ = some (.int .i64 (yk : Int)) ∧ w'.cell? ⟨b, off + k * 4 + 1, none⟩ = some (.string (txt yt)) ∧ w'.cell? ⟨b, off + k * 4 + 2, none⟩ = some (.int .i64 yn) ∧ w'.cell? ⟨b, off + k * 4 + 3, none⟩ = some (.slice ya yks.length yc) ∧ w'.cell? ⟨b', off' + k * 4, none⟩ = some (.int .i64 (zk : Int)) ∧ w'.cell? ⟨b', off' + k * 4 + 1, none⟩ = some (.string (txt zt)) ∧ w'.cell? ⟨b', off' + k * 4 + 2, none⟩ = some (.int .i64 zn) ∧ w'.cell? ⟨b', off' + k * 4 + 3, none⟩ = some (.slice za zks.length zc))
            (first | go_keep | fail)
            (first | fail)
          all_goals
            have t1 := two_new wr #[.int .i64 (yk : Int), .string (txt yt), .int .i64 yn, .slice ya yks.length yc] #[.int .i64 (zk : Int), .string (txt zt), .int .i64 zn, .slice za zks.length zc] 45
            have t2 := two_new wr #[.int .i64 (zk : Int), .string (txt zt), .int .i64 zn, .slice za zks.length zc] #[.int .i64 (yk : Int), .string (txt yt), .int .i64 yn, .slice ya yks.length yc] 45
            generalize hwq : World.drew (World.alloc (World.alloc _ _) _) = W6
            obtain ⟨p2, hp2⟩ : ∃ z, wr.heap.size + 1 = z := ⟨_, rfl⟩
            first
              | (rw [hwq] at t1
                 rw [hp2] at t1 ⊢
                 clear t2 hp2 hwq
                 obtain ⟨p1, hp1⟩ : ∃ z, wr.heap.size = z := ⟨_, rfl⟩
                 rw [hp1] at t1 ⊢
                 exact KEY.out p1 p2 W6 ⟨t1.1, t1.2.1, by rw [hp1]; exact t1.2.2⟩)
              | (rw [hwq] at t2
                 rw [hp2] at t2 ⊢
                 clear t1 hp2 hwq
                 obtain ⟨p1, hp1⟩ : ∃ z, wr.heap.size = z := ⟨_, rfl⟩
                 rw [hp1] at t2 ⊢
                 exact KEY.out p2 p1 W6 ⟨t2.2.1, t2.1, by rw [hp1]; exact t2.2.2⟩)
        · intro b1 b2 W6 h6
          obtain ⟨h61, h62, h63⟩ := h6
          obtain ⟨a0, a1, a2, a3⟩ := h61.k4
          obtain ⟨z0, z1, z2, z3⟩ := h62.k4
          have B6 : Hid (Below w.heap.size w W6) := zH (by rw [HG.out]; exact B1.out.trans ((hb.out.mono (by have := B1.out.size; have := HG.out; omega)).trans (h63.mono (by have := B1.out.size; have := hb.out.size; have := HG.out; omega))))
          have B6' : Hid (Below W1.heap.size W1 W6) := zH (hb.out.trans (h63.mono hb.out.size))
          have HY6 := zH (HY.out.below (h63.mono (by have := hw1.size; omega)))
          have HZ6 := zH (HZ.out.below (h63.mono (by have := hw1.size; omega)))
          have HF : Hid (ndK ⟨yk, yt, yn, yks⟩ ≠ ndK ⟨zk, zt, zn, zks⟩ → R = false) := zH (fun h => by rw [← HR.out, decide_eq_false_iff_not]; exact nd_ne_at Hd.out He.out h)
          clear n0 n1 n2 n3 q0 q1 h0 h1 h2 h3 g0 g1 g2 g3 h61 h62 h63 HY HZ hw1 BA BB
          by_cases e0 : yk = zk
          rotate_left
          · have hv : R = false := HF.out (fun e => e0 (congrArg (·.1) e))
            subst hv
            have m1 : ((yk : Int) != (zk : Int)) = true := by rw [bne_iff_ne]; omega
            have m2 : ((yk : Int) == (zk : Int)) = false := by rw [beq_eq_false_iff_ne]; omega
            have m3 : ¬ (yk : Int) = (zk : Int) := by omega
            clear e0
            go_wp2_with fail
            go_ret
            exact ⟨rfl, B6.out⟩
          subst e0
          obtain ⟨ty, hty⟩ : ∃ z, txt yt = z := ⟨_, rfl⟩
          obtain ⟨tz, htz⟩ : ∃ z, txt zt = z := ⟨_, rfl⟩
          rw [hty] at a1
          rw [htz] at z1
          by_cases e1 : ty = tz
          rotate_left
          · have hv : R = false := HF.out (fun e => e1 (by rw [← hty, ← htz]; exact congrArg (·.2.1) e))
            subst hv
            have m2 : (ty.toList == tz.toList) = false := by rw [beq_eq_false_iff_ne]; exact fun h => e1 ((toList_inj _ _).1 h)
            have m1 : (ty.toList != tz.toList) = true := by rw [bne, m2]; rfl
            have m3 : ¬ ty.toList = tz.toList := by simpa using m2
            clear e1 hty htz
            go_wp2_with fail
            go_ret
            exact ⟨rfl, B6.out⟩
          subst e1
          have HTX := zH (hty.trans htz.symm)
          clear hty htz
          by_cases e2 : yn = zn
          rotate_left
          · have hv : R = false := HF.out (fun e => e2 (congrArg (·.2.2.1) e))
            subst hv
            have m1 : (yn != zn) = true := by rw [bne_iff_ne]; exact e2
            have m2 : (yn == zn) = false := by rw [beq_eq_false_iff_ne]; exact e2
            clear e2
            go_wp2_with fail
            go_ret
            exact ⟨rfl, B6.out⟩
          subst e2
          obtain ⟨ny, hny⟩ : ∃ z, yks.length = z := ⟨_, rfl⟩
          obtain ⟨nz, hnz⟩ : ∃ z, zks.length = z := ⟨_, rfl⟩
          have ny63 : ny ≤ 9223372036854775807 := by have := HY6.out.caps; unfold maxLen at this; omega
          rw [hny] at a3 HY6
          rw [hnz] at z3 HZ6
          by_cases e3 : ny = nz
          rotate_left
          · have hv : R = false := HF.out (fun e => e3 (by rw [← hny, ← hnz]; exact congrArg (fun z => z.2.2.2.length) e))
            subst hv
            have m1 : ((ny : Int) != (nz : Int)) = true := by rw [bne_iff_ne]; omega
            have m2 : ((ny : Int) == (nz : Int)) = false := by rw [beq_eq_false_iff_ne]; omega
            have m3 : ¬ (ny : Int) = (nz : Int) := by omega
            clear e3 hny hnz
            go_wp2_with fail
            go_ret
            exact ⟨rfl, B6.out⟩
          subst e3
          have HNY := zH hny
          have HNZ := zH hnz
          clear hny hnz
          go_wp2_with fail
          obtain ⟨W5, hW5⟩ : ∃ z, W6 = z := ⟨_, rfl⟩
          go_loopw [8] (fun j w8 => ∃ i : Nat, i ≤ ny ∧ j = .int .i64 (i : Int) ∧ Hid (Quiet W6 w8) ∧ Hid (∀ t, t < i → yks[t]? = zks[t]?)) (fun j _ => ny - (intOf j).toNat)
          case atStart => exact ⟨0, Nat.zero_le _, rfl, Quiet.refl _, fun t h => by omega⟩
          case round =>
            clear a0 a1 a2 z0 z1 z2 hW5
            obtain ⟨i, hi, rfl, hq, hall⟩ := hrel
            have i0 : (0 : Int) ≤ (i : Int) := Int.natCast_nonneg _
            by_cases hin : i < ny
            · obtain ⟨yv, hyv⟩ := get_some HNY.out hin
              obtain ⟨zv, hzv⟩ := get_some HNZ.out hin
              obtain ⟨nq, rfl⟩ := hq.out
              obtain ⟨bb, o1, x1, rfl, _, _, rfl, hx1⟩ := HY6.out.at_ hyv
              obtain ⟨bc, o2, x2, rfl, _, _, rfl, hx2⟩ := HZ6.out.at_ hzv
              have k1 : W6.cell? ⟨bb, o1 + i, none⟩ = some (.int .i64 (yv : Int)) := by have := hx1 0 _ rfl; simpa using this
              have k2 : W6.cell? ⟨bc, o2 + i, none⟩ = some (.int .i64 (zv : Int)) := by have := hx2 0 _ rfl; simpa using this
              have a3' : (W6.drewN nq).cell? ⟨b1, 3, none⟩ = some (.slice (some ⟨bb, o1, none⟩) ny yc) := a3
              have z3' : (W6.drewN nq).cell? ⟨b2, 3, none⟩ = some (.slice (some ⟨bc, o2, none⟩) ny zc) := z3
              have dij : decide (i < ny) = true := by simpa using hin
              have dij2 : (i : Int) < (ny : Int) := by omega
              have HYV := zH hyv
              have HZV := zH hzv
              clear hx1 hx2 hyv hzv
              by_cases hv : yv = zv
              · subst hv
                go_wp2_with fail
                go_quiet (fail)
                go_wp2_with fail
                go_roundw
                case rel => exact ⟨i + 1, by omega, by go_num, ⟨_, rfl⟩, zH (fun t ht => by rcases Nat.lt_or_ge t i with h | h; exact hall.out t h; (have : t = i := by omega); subst this; rw [HYV.out, HZV.out])⟩
                case measure => simp [intOf]; omega
              · have hR0 : R = false := HF.out (fun e => hv (by have e4 : yks = zks := congrArg (·.2.2.2) e; have := HYV.out; rw [e4, HZV.out] at this; injection this with this; exact this.symm))
                subst hR0
                have m1 : ((yv : Int) != (zv : Int)) = true := by rw [bne_iff_ne]; omega
                have m2 : ((yv : Int) == (zv : Int)) = false := by rw [beq_eq_false_iff_ne]; omega
                have m3 : ¬ (yv : Int) = (zv : Int) := by omega
                clear hv
                go_wp2_with fail
                go_quiet (fail)
                go_wp2_with fail
                go_ret
                exact ⟨rfl, below_drewN (below_drewN B6.out _) _⟩
            · obtain rfl : i = ny := by omega
              have dij : decide (i < i) = false := by simp
              obtain ⟨nq, rfl⟩ := hq.out
              have a3' : (W6.drewN nq).cell? ⟨b1, 3, none⟩ = some (.slice ya i yc) := a3
              have hall' : yks = zks := by
                apply List.ext_getElem?
                intro t
                rcases Nat.lt_or_ge t i with h | h
                · exact hall.out t h
                · rw [List.getElem?_eq_none (by rw [HNY.out]; exact h), List.getElem?_eq_none (by rw [HNZ.out]; exact h)]
              have HALL := zH hall'
              clear hin hall hall'
              go_wp2_with fail
              go_roundw
              case rel => exact ⟨k + 1, by omega, by go_num, zH (below_drewN B6'.out _), zH (fun t y z ht h1 h2 => by
                rcases Nat.lt_or_ge t k with h | h
                · exact hf.out t y z h h1 h2
                · obtain rfl : t = k := by omega
                  have e1 := Hd.out
                  have e2 := He.out
                  rw [h1] at e1
                  rw [h2] at e2
                  injection e1 with e1
                  injection e2 with e2
                  subst e1 e2
                  unfold ndK
                  simp only
                  rw [HTX.out, HALL.out])⟩
              case measure => simp [intOf]; omega
      · have hkn : k = n := by omega
        subst hkn
        have djk : decide (k < k) = false := by simp
        have hv : R = true := by
          rw [← HR.out, decide_eq_true_iff]
          exact nd_eq_all Hl.out (fun i x y hi h1 h2 => hf.out i x y (by rw [← Hlen.out]; exact hi) h1 h2)
        subst hv
        have B6 : Hid (Below w.heap.size w wr) := zH (by rw [HG.out]; exact B1.out.trans (hb.out.mono (by have := B1.out.size; have := HG.out; omega)))
        clear hlt
        go_wp2_with fail
        go_ret
        exact ⟨rfl, B6.out⟩
  · have hne : ((l.length : Int) != (m.length : Int)) = true := by rw [bne_iff_ne]; omega
    have hv : R = false := by rw [← HR.out, decide_eq_false_iff_not]; exact fun e => hl (by have := congrArg List.length e; simpa using this)
    subst hv
    clear hl hs ht hw
    go_enter Tryz.func15, Tryz.ntmps15
    go_wp2_with fail
    go_ret
    exact ⟨rfl, BX.out⟩
end Go.Proofs.YtdkoafmgenbkbaaGreatDoor
