/- - - - - -/
import Derived.Test.YtpkggobhhieeoaaDoorKM4
set_option maxRecDepth 100000
set_option maxHeartbeats 32000000
set_option linter.unusedSimpArgs false
set_option linter.unusedVariables false
namespace Go.Proofs.YtpkggobhhieeoaaDoor
open Go.RowKit
theorem find_drop1 {α : Type} {p : α → Bool} {l : List α} {k : Nat} {m : α} (h : l[k]? = some m) : (l.drop k).find? p = if p m = true then some m else (l.drop (k + 1)).find? p := by
  have hk := (List.getElem?_eq_some_iff.1 h).1
  rw [List.drop_eq_getElem_cons hk, (List.getElem?_eq_some_iff.1 h).2, List.find?_cons]
  cases p m <;> rfl
theorem signs_index (k : Nat) (hk : k < 15) (W : World) : ∃ x, signsL[k]? = some x ∧ (Instr.index 148 (.agg signsV) (.int .i64 (k : Int))).run Tryd.prog W = .ok (.agg #[.string (txt x.1), .int .i64 (x.2.1 : Int), .int .i64 (x.2.2 : Int)]) W := by
  rcases k with _ | _ | _ | _ | _ | _ | _ | _ | _ | _ | _ | _ | _ | _ | _ | k
  all_goals first | omega | exact ⟨_, rfl, by kernel_rfl⟩
def signP (l : List Tok) (n i : Nat) (x : List Nat × Nat × Nat) : Bool := decide (x.2.2 = n) && isT l i x.1
theorem signK_find (l : List Tok) (n i : Nat) : signK l n i = match signsL.find? (signP l n i) with | some x => x.2.1 | none => 0 := rfl
section
variable {q : Nat} {a : Option Addr} {c sz : Nat} {l : List Tok} {i : Nat} {W : World}
theorem Mv.setNew {W X : World} (h : Mv q W X) {p : Addr} (u : Value) (hq : q ≤ p.block) (hB : W.heap.size ≤ p.block) : Mv q W (X.setCell p u) :=
  ⟨h.low.setCell hq u, fun k h1 h2 => (Below.heap_setCell X p u k (by omega)).trans (h.high k h1 h2)⟩
theorem PSt.setFar (h : PSt q a c sz l i W) {p : Addr} (u : Value) (hp : q < p.block) : PSt q a c sz l i (W.setCell p u) :=
  h.mv ((Below.refl q W).setCell (Nat.le_of_lt hp) u) (h.box.far (Nat.ne_of_lt hp) u) h.le
def SignIs (q : Nat) (a : Option Addr) (c sz : Nat) (l : List Tok) (i : Nat) (W : World) : Option (List Nat × Nat × Nat) → Ending → World → Prop
  | none, e, w' => e = .returned (.tuple #[.agg #[.string ByteArray.empty, .int .i64 0, .int .i64 0], .bool false]) ∧ Mv q W w' ∧ PSt q a c sz l i w'
  | some x, e, w' => e = .returned (.tuple #[.agg #[.string (txt x.1), .int .i64 (x.2.1 : Int), .int .i64 (x.2.2 : Int)], .bool true]) ∧ Mv q W w' ∧ PSt q a c sz l (i + 1) w'
theorem p_sign0 (n : Nat) (h : PSt q a c sz l i W) (R : Option (List Nat × Nat × Nat)) (hR : signsL.find? (signP l n i) = R) :
    Calls Tryd.prog 92 #[.pointer (some ⟨q, 0, none⟩), .int .i64 (n : Int)] W fun e w' => SignIs q a c sz l i W R e w' := by
  obtain ⟨tt, fr, hg1⟩ := signs_block h.signs
  have H := zH h
  have HR : Hid ((signsL.drop 0).find? (signP l n i) = R) := zH hR
  have hg2 : ∀ v, (W.alloc (.cells v 137)).heap[4]? = some (.cells signsV tt fr) := fun v => (zB.alloc zL _).block 4 (Nat.lt_trans h.low h.box.lt) |>.trans hg1
  clear h hR hg1
  go_enter Tryd.func92, Tryd.ntmps92
  go_wp2_with (refine wpList_load_row rfl 148 _ rfl 4 rfl tt _ fr _ (hg2 _) Tryd.underlying148 rfl (by kernel_rfl) ?_)
  generalize hWA : World.alloc W _ = WA
  have BA : Hid (Below W.heap.size W WA) := zH (by rw [← hWA]; exact zB.alloc zL _)
  have KA : Hid (Blk WA W.heap.size 137 #[.string ByteArray.empty, .int .i64 0, .int .i64 0]) := zH (by rw [← hWA]; exact Blk.new _ _ _)
  have HA : Hid (PSt q a c sz l i WA) := zH (H.out.keep BA.out)
  have lq := H.out.box.lt
  obtain ⟨B, hB⟩ : ∃ B, W.heap.size = B := ⟨_, rfl⟩
  rw [hB] at lq KA
  rw [hB]
  have lqA := KA.out.lt
  have HB := zH hB
  have hfew := H.out.few
  have hle := H.out.le
  have i5 : (i : Int) ≤ 5000 := by omega
  have i0 : (0 : Int) ≤ (i : Int) := Int.natCast_nonneg _
  clear hWA hg2 hB hfew hle
  go_loopw [7, 9] (fun _ j wr => ∃ k : Nat, k ≤ 15 ∧ j = .int .i64 (k : Int) ∧ Hid ((signsL.drop k).find? (signP l n i) = R) ∧ Hid (Below WA.heap.size WA wr)) (fun _ j _ => 15 - (intOf j).toNat)
  case atStart => exact ⟨0, by omega, by go_num, HR, zH zB⟩
  case round =>
    obtain ⟨k, hk, rfl, hu, hw⟩ := hrel
    have Hw := hw
    clear hw
    have b1 : (0 : Int) ≤ (k : Int) := Int.natCast_nonneg _
    have KW : Blk wr B 137 #[.string ByteArray.empty, .int .i64 0, .int .i64 0] := KA.out.below Hw.out lqA
    have z0 : wr.cell? ⟨B, 0, none⟩ = some (.string ByteArray.empty) := KW.cell rfl
    have z1 : wr.cell? ⟨B, 1, none⟩ = some (.int .i64 0) := KW.cell rfl
    have z2 : wr.cell? ⟨B, 2, none⟩ = some (.int .i64 0) := KW.cell rfl
    have zf0 : wr.frozen? ⟨B, 0, none⟩ = false := KW.frozen 0
    have zf1 : wr.frozen? ⟨B, 1, none⟩ = false := KW.frozen 1
    have zf2 : wr.frozen? ⟨B, 2, none⟩ = false := KW.frozen 2
    have lB := KW.lt
    have HKW := zH KW
    have HP : Hid (PSt q a c sz l i wr) := zH (HA.out.keep Hw.out)
    obtain ⟨f0, f1, f2, f3, f4⟩ := HP.out.facts
    clear KW
    by_cases hlt : k < 15
    · obtain ⟨x, hx, _⟩ := signs_index k hlt wr
      have hidx : ∀ W, (Instr.index 148 (.agg signsV) (.int .i64 (k : Int))).run Tryd.prog W = .ok (.agg #[.string (txt x.1), .int .i64 (x.2.1 : Int), .int .i64 (x.2.2 : Int)]) W := fun W => by
        obtain ⟨x', hx', h⟩ := signs_index k hlt W
        rw [hx] at hx'
        injection hx' with hx'
        subst hx'
        exact h
      have hby : Bytes x.1 := by
        have : ∀ m ∈ signsL, ∀ n ∈ m.1, n < 256 := by decide
        exact this x (List.mem_iff_getElem?.2 ⟨k, hx⟩)
      have hf := find_drop1 (p := signP l n i) hx
      have hv := hu.out
      rw [hf] at hv
      obtain ⟨xt, xk, xl⟩ := x
      have Hby := zH hby
      by_cases hl : xl = n
      · subst hl
        obtain ⟨b, hb⟩ : ∃ b, isT l i xt = b := ⟨_, rfl⟩
        have hsp : signP l xl i (xt, xk, xl) = b := by rw [← hb]; simp [signP]
        rw [hsp] at hv
        have e1 : ((xl : Int) == (xl : Int)) = true := by simp
        have HN := zH (fun v => p_next xt hby b hb (HP.out.keep ((zB.alloc zL (.cells v 137)))))
        cases b with
        | true =>
          rw [if_pos rfl] at hv
          have HV := zH hv
          have ilt : Hid (i + 1 ≤ l.length) := zH (isT_lt hb)
          clear hu hv hx hby hf hb hsp
          go_wp2_with (first
            | (go_at_call 103; (with_reducible refine (HN.out _).mono ?_); rintro e w1 ⟨rfl, nq, rfl⟩))
          have vm := Mv.of_below (q := q) (BA.out.trans (Hw.out.mono (by have := HB.out; omega))) (by have := HB.out; omega)
          have vm2 := vm.trans (Mv.of_below (q := q) (((Below.refl wr.heap.size wr).alloc zL (.cells #[.string (txt xt), .int .i64 (xk : Int), .int .i64 (xl : Int)] 137))) (by omega))
          have hs2 := HP.out.keep (((Below.refl wr.heap.size wr).alloc zL (.cells #[.string (txt xt), .int .i64 (xk : Int), .int .i64 (xl : Int)] 137)))
          have st := hs2.step (j := i + 1) (u := .int .i64 ((i : Int) + 1)) (by go_num) ilt.out nq
          have hBW := HB.out
          have hv := HV.out
          subst hv
          have hmv := (((vm2.trans st.1).setNew (p := ⟨B, 0, none⟩) (.string (txt xt)) (by show q ≤ B; omega) (by show W.heap.size ≤ B; omega)).setNew (p := ⟨B, 1, none⟩) (.int .i64 (xk : Int)) (by show q ≤ B; omega) (by show W.heap.size ≤ B; omega)).setNew (p := ⟨B, 2, none⟩) (.int .i64 (xl : Int)) (by show q ≤ B; omega) (by show W.heap.size ≤ B; omega)
          have hps := ((st.2.setFar (p := ⟨B, 0, none⟩) (.string (txt xt)) (by show q < B; omega)).setFar (p := ⟨B, 1, none⟩) (.int .i64 (xk : Int)) (by show q < B; omega)).setFar (p := ⟨B, 2, none⟩) (.int .i64 (xl : Int)) (by show q < B; omega)
          have hka : Blk ((wr.alloc (.cells #[.string (txt xt), .int .i64 (xk : Int), .int .i64 (xl : Int)] 137)).drewN nq) B 137 #[.string ByteArray.empty, .int .i64 0, .int .i64 0] := HKW.out.alloc _
          have hkb : Blk _ B 137 _ := (((hka.far (p := ⟨q, 1, none⟩) (by show B ≠ q; omega) (.int .i64 ((i : Int) + 1))).set_ 0 (.string (txt xt))).set_ 1 (.int .i64 (xk : Int))).set_ 2 (.int .i64 (xl : Int))
          generalize hwf : World.setCell (World.setCell (World.setCell _ _ _) _ _) _ _ = wf
          have hmv' : Mv q W wf := by rw [← hwf]; exact hmv
          have hps' : PSt q a c sz l (i + 1) wf := by rw [← hwf]; exact hps
          have c0 : wf.cell? ⟨B, 0, none⟩ = some (.string (txt xt)) := by rw [← hwf]; exact hkb.cell rfl
          have c1 : wf.cell? ⟨B, 1, none⟩ = some (.int .i64 (xk : Int)) := by rw [← hwf]; exact hkb.cell rfl
          have c2 : wf.cell? ⟨B, 2, none⟩ = some (.int .i64 (xl : Int)) := by rw [← hwf]; exact hkb.cell rfl
          clear hwf hmv hps hkb vm vm2 hs2 st
          refine bodyPost_ret (v := .tuple #[.agg #[.string (txt xt), .int .i64 (xk : Int), .int .i64 (xl : Int)], .bool true]) (by simp [results, Tryd.results92, go_sem, c0, c1, c2]) rfl ?_
          exact ⟨rfl, hmv', hps'⟩
        | false =>
          rw [if_neg (by simp)] at hv
          have HV := zH hv
          clear hu hv hx hby hf hb hsp
          go_wp2_with (first
            | (go_at_call 103; (with_reducible refine (HN.out _).mono ?_); rintro e w1 ⟨rfl, nq, rfl⟩))
          go_roundw
          case rel => exact ⟨k + 1, by omega, by go_num, HV, zH (below_drewN (Hw.out.alloc Hw.out.size _) _)⟩
          case measure => simp [intOf]; omega
      · have hsp : signP l n i (xt, xk, xl) = false := by simp [signP, hl]
        rw [hsp, if_neg (by simp)] at hv
        have HV := zH hv
        have e1 : ((xl : Int) == (n : Int)) = false := by simp; omega
        clear hu hv hx hby hf hsp hl
        go_wp2_with fail
        go_roundw
        case rel => exact ⟨k + 1, by omega, by go_num, HV, zH (Hw.out.alloc Hw.out.size _)⟩
        case measure => simp [intOf]; omega
    · have hk15 : k = 15 := by omega
      subst hk15
      have hv := hu.out
      rw [show (signsL.drop 15) = [] from rfl, List.find?_nil] at hv
      subst hv
      have hdec : decide (((15 : Nat) : Int) < 15) = false := by decide
      clear hu
      go_wp2_with fail
      have vm := Mv.of_below (q := q) (BA.out.trans (Hw.out.mono (by have := HB.out; omega))) (by have := HB.out; omega)
      have hBW := HB.out
      have hmv := ((vm.setNew (p := ⟨B, 0, none⟩) (.string ByteArray.empty) (by show q ≤ B; omega) (by show W.heap.size ≤ B; omega)).setNew (p := ⟨B, 1, none⟩) (.int .i64 0) (by show q ≤ B; omega) (by show W.heap.size ≤ B; omega)).setNew (p := ⟨B, 2, none⟩) (.int .i64 0) (by show q ≤ B; omega) (by show W.heap.size ≤ B; omega)
      have hps := ((HP.out.setFar (p := ⟨B, 0, none⟩) (.string ByteArray.empty) (by show q < B; omega)).setFar (p := ⟨B, 1, none⟩) (.int .i64 0) (by show q < B; omega)).setFar (p := ⟨B, 2, none⟩) (.int .i64 0) (by show q < B; omega)
      have hkb : Blk _ B 137 _ := ((HKW.out.set_ 0 (.string ByteArray.empty)).set_ 1 (.int .i64 0)).set_ 2 (.int .i64 0)
      generalize hwf : World.setCell (World.setCell (World.setCell _ _ _) _ _) _ _ = wf
      have hmv' : Mv q W wf := by rw [← hwf]; exact hmv
      have hps' : PSt q a c sz l i wf := by rw [← hwf]; exact hps
      have c0 : wf.cell? ⟨B, 0, none⟩ = some (.string ByteArray.empty) := by rw [← hwf]; exact hkb.cell rfl
      have c1 : wf.cell? ⟨B, 1, none⟩ = some (.int .i64 0) := by rw [← hwf]; exact hkb.cell rfl
      have c2 : wf.cell? ⟨B, 2, none⟩ = some (.int .i64 0) := by rw [← hwf]; exact hkb.cell rfl
      clear hwf hmv hps hkb vm z0 z1 z2
      refine bodyPost_ret (v := .tuple #[.agg #[.string ByteArray.empty, .int .i64 0, .int .i64 0], .bool false]) (by simp [results, Tryd.results92, go_sem, c0, c1, c2]) rfl ?_
      exact ⟨rfl, hmv', hps'⟩
end
end Go.Proofs.YtpkggobhhieeoaaDoor
namespace Go.Proofs.YtpkggobhhieeoaaDoor
open Go.RowKit
section
variable {q : Nat} {a : Option Addr} {c sz : Nat} {l : List Tok} {i : Nat} {W : World}
def Reads (q : Nat) (a : Option Addr) (c sz : Nat) (l : List Tok) (W : World) : PR → Ending → World → Prop
  | .ok t j, e, w' => (∃ g, e = .returned (.pointer (some ⟨g, 0, none⟩)) ∧ TreeAt w' W.heap.size t g) ∧ Mv q W w' ∧ PSt q a c sz l j w'
  | .no j, e, w' => e = .panicked (thrownE (placeAt l sz j)) ∧ Mv q W w'
  | .out, _, _ => False
def LevelC (q : Nat) (a : Option Addr) (c sz : Nat) (l : List Tok) (fn : FuncId) (rd : Nat → PR) : Prop :=
  ∀ (i : Nat) (W : World), PSt q a c sz l i W → rd i ≠ .out → Calls Tryd.prog fn #[.pointer (some ⟨q, 0, none⟩)] W (Reads q a c sz l W (rd i))
theorem Mv.cell {W W' : World} (h : Mv q W W') {p : Addr} {u : Value} (hp : q < p.block) (hc : W.cell? p = some u) : W'.cell? p = some u := by
  have hlt : p.block < W.heap.size := cell_lt hc
  have hh := h.high p.block hp hlt
  unfold World.cell? at hc ⊢
  rw [hh]
  exact hc
theorem node2 {w : World} {lo k g1 g2 : Nat} {t1 t2 : Tr} (hlo : lo ≤ w.heap.size) (h1 : TreeAt w lo t1 g1) (h2 : TreeAt w lo t2 g2) :
    TreeAt ((w.alloc (.cells #[.pointer (some ⟨g1, 0, none⟩), .pointer (some ⟨g2, 0, none⟩)] 103)).alloc (.cells #[.int .i64 (k : Int), .string (txt []), .int .i64 0, .slice none 0 0, .slice (some ⟨w.heap.size, 0, none⟩) 2 2] 126)) lo (.node k [] 0 [t1, t2]) (w.heap.size + 1) := by
  have hb : Below w.heap.size w ((w.alloc (.cells #[.pointer (some ⟨g1, 0, none⟩), .pointer (some ⟨g2, 0, none⟩)] 103)).alloc (.cells #[.int .i64 (k : Int), .string (txt []), .int .i64 0, .slice none 0 0, .slice (some ⟨w.heap.size, 0, none⟩) 2 2] 126)) :=
    (zB.alloc zL _).alloc (by simp) _
  have hi := High.of_below hb zL lo
  simp only [TreeAt, TreeIn, TreesIn]
  refine ⟨by omega, _, [g1, g2], Blk.new_ (by simp) _ _, ⟨[.pointer (some ⟨g1, 0, none⟩), .pointer (some ⟨g2, 0, none⟩)], ⟨rfl, .inr ⟨w.heap.size, 2, _, rfl, Nat.zero_le _, (Blk.new w 103 #[.pointer (some ⟨g1, 0, none⟩), .pointer (some ⟨g2, 0, none⟩)]).alloc _, Nat.le_refl _, by unfold maxLen; simp, by simp, by simp⟩⟩, rfl, fun j y hy => ?_⟩, (fun b hb => by simp [Value.ownBlock] at hb; omega), g1, [g2], rfl, h1.high hi, g2, [], rfl, h2.high hi, rfl⟩
  rcases j with _ | _ | j
  · injection hy with hy; subst hy; rfl
  · injection hy with hy; subst hy; rfl
  · simp at hy
def rowR (l : List Tok) (f n i : Nat) : PR := (pL l f (n + 1) i).bind fun t j => pR l f n t j
theorem p_row (n f : Nat) (fB : FuncId) (once : Bool) (honce : once = decide (n = 4))
    (hcall : ∀ args w, (callFunc fB args).run Tryd.prog w = .ok (.enter fB args) w)
    (HB : ∀ f', f' ≤ f → LevelC q a c sz l fB (fun i => pL l f' (n + 1) i)) (h : PSt q a c sz l i W) (hr : rowR l f n i ≠ .out) :
    Calls Tryd.prog 78 #[.pointer (some ⟨q, 0, none⟩), .int .i64 (n : Int), .func (.func fB) #[.pointer (some ⟨q, 0, none⟩)] #[], .bool once] W (Reads q a c sz l W (rowR l f n i)) := by
  obtain ⟨r, hr0⟩ : ∃ r, rowR l f n i = r := ⟨_, rfl⟩
  rw [hr0] at hr ⊢
  unfold rowR at hr0
  have H := zH h
  have HBf : Hid (pL l f (n + 1) i ≠ .out → Calls Tryd.prog fB #[.pointer (some ⟨q, 0, none⟩)] W (Reads q a c sz l W (pL l f (n + 1) i))) := zH (HB f zL i W h)
  have HBs := zH (fun (f' : Nat) (hf : f' ≤ f) (i : Nat) (X : World) (hX : PSt q a c sz l i X) (hne : pL l f' (n + 1) i ≠ .out) => (show Calls Tryd.prog fB #[.pointer (some ⟨q, 0, none⟩)] X (Reads q a c sz l X (pL l f' (n + 1) i)) from HB f' hf i X hX hne))
  have HO := zH honce
  have QL := zH h.box.lt
  clear HB h honce
  cases hb : pL l f (n + 1) i with
  | out => rw [hb] at hr0; exact absurd hr0.symm hr
  | no j =>
    rw [hb] at hr0 HBf
    have HF := zH (HBf.out (by simp))
    have hr1 : PR.no j = r := hr0
    subst hr1
    clear hb hr0 hr HBf
    go_enter Tryd.func78, Tryd.ntmps78
    go_wp2_with (first
      | (refine HF.out.mono ?_; rintro e w1 ⟨rfl, h1⟩; have M1 := zH h1; clear h1))
    exact ⟨rfl, rfl, M1.out⟩
  | ok t j =>
    rw [hb] at hr0 HBf
    have HF := zH (HBf.out (by simp))
    have hr1 : pR l f n t j = r := hr0
    have HR := zH hr1
    have HNE := zH hr
    clear hb hr0 hr HBf hr1
    go_enter Tryd.func78, Tryd.ntmps78
    go_wp2_with (first
      | (refine HF.out.mono ?_; rintro e w1 ⟨⟨g1, rfl, h1⟩, h2, h3⟩; have T1 := zH h1; have M1 := zH h2; have P1 := zH h3; clear h1 h2 h3))
    go_loopg [8, 9, 10, 11] f (fun gk _ v _ _ wr => ∃ (t : Tr) (j g : Nat), gk ≤ f ∧ v = .pointer (some ⟨g, 0, none⟩) ∧ Hid (pR l gk n t j = r) ∧ Hid (TreeAt wr W.heap.size t g) ∧ Hid (Mv q W wr) ∧ Hid (PSt q a c sz l j wr))
    case atStart => exact ⟨t, j, g1, Nat.le_refl _, rfl, HR, T1, M1, P1⟩
    case round =>
      clear T1 M1 P1 HF HR
      obtain ⟨t, j, g, hgk, rfl, hr, ht, hm, hp⟩ := hrel
      have HR := hr
      have HT := ht
      have HM := hm
      have HP := hp
      clear hr ht hm hp
      cases gk with
      | zero =>
        exfalso
        have := HR.out
        rw [pR] at this
        exact HNE.out this.symm
      | succ f1 =>
      have hr := HR.out
      rw [pR, signK_find] at hr
      obtain ⟨R, hR⟩ : ∃ R, signsL.find? (signP l n j) = R := ⟨_, rfl⟩
      have HS := zH (p_sign0 n HP.out R hR)
      rw [hR] at hr
      cases R with
      | none =>
        rw [if_pos rfl] at hr
        subst hr
        clear hR
        go_wp2_with (first
          | (go_at_call 92; (with_reducible refine HS.out.mono ?_); rintro e w2 ⟨rfl, h2, h3⟩; have M2 := zH h2; have P2 := zH h3; clear h2 h3))
        go_ret
        have ha := (Below.refl w2.heap.size w2).alloc zL (.cells #[.string ByteArray.empty, .int .i64 0, .int .i64 0] 137)
        exact ⟨⟨g, rfl, (HT.out.high (High.of_mv M2.out QL.out)).high (High.of_below ha zL _)⟩, (HM.out.trans M2.out).trans (Mv.of_below ha (Nat.le_trans (Nat.le_of_lt QL.out) (Nat.le_trans HM.out.low.size M2.out.low.size))), P2.out.keep ha⟩
      | some x =>
        obtain ⟨xt, xk, xl⟩ := x
        have hk0 : xk ≠ 0 := by
          have : ∀ m ∈ signsL, m.2.1 ≠ 0 := by decide
          exact this _ (List.mem_of_find?_eq_some hR)
        dsimp only at hr
        rw [if_neg hk0] at hr
        clear hR hk0
        cases hb : pL l f1 (n + 1) (j + 1) with
        | out => rw [hb] at hr; exact absurd hr.symm HNE.out
        | no j2 =>
          rw [hb] at hr
          have hr1 : PR.no j2 = r := hr
          subst hr1
          have HB2 := zH (fun X (hX : PSt q a c sz l (j + 1) X) => (show Calls Tryd.prog fB #[.pointer (some ⟨q, 0, none⟩)] X (Reads q a c sz l X (.no j2)) by have := HBs.out f1 (by omega) (j + 1) X hX (by simp [hb]); rwa [hb] at this))
          clear hb hr
          go_wp2_with (first
            | (go_at_call 92; (with_reducible refine HS.out.mono ?_); rintro e w2 ⟨rfl, h2, h3⟩; have M2 := zH h2; have P2 := zH h3; clear h2 h3))
          have kb := Blk.new w2 137 #[.string (txt xt), .int .i64 (xk : Int), .int .i64 (xl : Int)]
          have ba := (Below.refl w2.heap.size w2).alloc zL (.cells #[.string (txt xt), .int .i64 (xk : Int), .int .i64 (xl : Int)] 137)
          have lq2 : q < w2.heap.size := P2.out.box.lt
          generalize hwb : World.alloc w2 _ = wb
          rw [hwb] at kb ba
          clear hwb
          obtain ⟨bs, hbs⟩ : ∃ z, w2.heap.size = z := ⟨_, rfl⟩
          have MB : Hid (Mv q W wb) := zH ((HM.out.trans M2.out).trans (Mv.of_below ba (Nat.le_of_lt lq2)))
          have PB := zH (P2.out.keep ba)
          have TB : Hid (TreeAt wb W.heap.size t g) := zH ((HT.out.high (High.of_mv M2.out QL.out)).high (High.of_below ba zL _))
          rw [hbs] at kb lq2 ⊢
          have KB : wb.cell? ⟨bs, 1, none⟩ = some (.int .i64 (xk : Int)) := kb.cell rfl
          have lbs := kb.lt
          clear kb ba hbs
          refine wp_region_held_drew (S := fun w' => w'.cell? ⟨bs, 1, none⟩ = some (.int .i64 (xk : Int))) (by kernel_rfl) KB (fun hHeld => ?_)
          refine wpAnyH_take (i := 0) (v := ?_) rfl (by kernel_rfl) (by kernel_rfl) (by kernel_rfl) (fun _ _ _ h => h) (Or.inl ⟨by rfl, ?_⟩) (by assumption) ?_
          rotate_left
          · intro w hSw; (try dsimp only at hSw); go_simp; with_reducible rfl
          try simp only [Act.put, List.setIfInBounds_toArray, List.set_cons_zero, List.set_cons_succ]
          refine wpAnyH_take (i := 1) (v := ?_) rfl (by kernel_rfl) (by kernel_rfl) (by kernel_rfl) (fun _ _ _ h => h) (Or.inl ⟨by rfl, ?_⟩) (by assumption) ?_
          rotate_left
          · intro w hSw; (try dsimp only at hSw); go_simp; with_reducible rfl
          try simp only [Act.put, List.setIfInBounds_toArray, List.set_cons_zero, List.set_cons_succ]
          refine wpAnyH_take (i := 2) (v := ?_) rfl (by kernel_rfl) (by kernel_rfl) (by kernel_rfl) (fun _ _ _ h => h) (Or.inl ⟨by rfl, ?_⟩) (by assumption) ?_
          rotate_left
          · intro w hSw; (try dsimp only at hSw); go_simp; with_reducible rfl
          try simp only [Act.put, List.setIfInBounds_toArray, List.set_cons_zero, List.set_cons_succ]
          refine wpAnyH_take (i := 3) (v := ?_) rfl (by kernel_rfl) (by kernel_rfl) (by kernel_rfl) (fun _ _ _ h => h) (Or.inl ⟨by rfl, ?_⟩) (by assumption) ?_
          rotate_left
          · intro w hSw; (try dsimp only at hSw); go_simp; with_reducible rfl
          try simp only [Act.put, List.setIfInBounds_toArray, List.set_cons_zero, List.set_cons_succ]
          refine wpAnyH_ready (rs := [4]) (by kernel_rfl) (by simp) ?_
          refine AllReadyH.cons rfl (fun K hK => ?_) AllReadyH.nil
          go_simp
          go_wp2_with (first
            | (refine (HB2.out _ (PB.out.quiet ⟨1, rfl⟩)).mono ?_; rintro e w3 ⟨rfl, h1⟩; have M3 : Hid (Mv q W w3) := zH (MB.out.trans ((Mv.quiet ⟨1, rfl⟩).trans h1)); clear h1))
          exact ⟨rfl, rfl, M3.out⟩
        | ok t2 j2 =>
          have HB2 := zH (fun X (hX : PSt q a c sz l (j + 1) X) => (show Calls Tryd.prog fB #[.pointer (some ⟨q, 0, none⟩)] X (Reads q a c sz l X (.ok t2 j2)) by have := HBs.out f1 (by omega) (j + 1) X hX (by simp [hb]); rwa [hb] at this))
          have HR2 := zH hr
          have Hb := zH hb
          clear hb hr
          go_wp2_with (first
            | (go_at_call 92; (with_reducible refine HS.out.mono ?_); rintro e w2 ⟨rfl, h2, h3⟩; have M2 := zH h2; have P2 := zH h3; clear h2 h3))
          have kb := Blk.new w2 137 #[.string (txt xt), .int .i64 (xk : Int), .int .i64 (xl : Int)]
          have ba := (Below.refl w2.heap.size w2).alloc zL (.cells #[.string (txt xt), .int .i64 (xk : Int), .int .i64 (xl : Int)] 137)
          have lq2 : q < w2.heap.size := P2.out.box.lt
          generalize hwb : World.alloc w2 _ = wb
          rw [hwb] at kb ba
          clear hwb
          obtain ⟨bs, hbs⟩ : ∃ z, w2.heap.size = z := ⟨_, rfl⟩
          have MB : Hid (Mv q W wb) := zH ((HM.out.trans M2.out).trans (Mv.of_below ba (Nat.le_of_lt lq2)))
          have PB := zH (P2.out.keep ba)
          have TB : Hid (TreeAt wb W.heap.size t g) := zH ((HT.out.high (High.of_mv M2.out QL.out)).high (High.of_below ba zL _))
          rw [hbs] at kb lq2 ⊢
          have KB : wb.cell? ⟨bs, 1, none⟩ = some (.int .i64 (xk : Int)) := kb.cell rfl
          have lbs := kb.lt
          clear kb ba hbs
          go_region_held3 (fun w' => w'.cell? ⟨bs, 1, none⟩ = some (.int .i64 (xk : Int)))
            (first | exact KB | exact K3 | go_keep | fail)
            (first
              | (refine (HB2.out _ (PB.out.quiet ⟨1, rfl⟩)).mono ?_; rintro e w3 ⟨⟨g2, rfl, h1⟩, h2, h3⟩; have K3 : w3.cell? ⟨bs, 1, none⟩ = some (.int .i64 (xk : Int)) := h2.cell lq2 KB; have T3 := zH h1; have M3 := zH h2; have P3 := zH h3; clear h1 h2 h3)
              | (go_at_call 93; refine (p_of xk [] _ _ _ _).mono ?_; rintro e w4 ⟨rfl, rfl⟩))
          have e1 : (wb.drewN 1).heap.size = wb.heap.size := rfl
          have MW : Mv q W w3 := MB.out.trans ((Mv.quiet ⟨1, rfl⟩).trans M3.out)
          have lW : W.heap.size ≤ (wb.drewN 1).heap.size := by rw [e1]; exact MB.out.low.size
          have N2 := zH (node2 (k := xk) (lo := W.heap.size) MW.low.size ((TB.out.high (High.of_mv (Mv.quiet (W' := wb.drewN 1) ⟨1, rfl⟩) QL.out)).high (High.of_mv M3.out QL.out)) (T3.out.mono lW))
          have bN := ((Below.refl w3.heap.size w3).alloc zL (.cells #[.pointer (some ⟨g, 0, none⟩), .pointer (some ⟨g2, 0, none⟩)] 103)).alloc (by simp) (.cells #[.int .i64 (xk : Int), .string (txt []), .int .i64 0, .slice none 0 0, .slice (some ⟨w3.heap.size, 0, none⟩) 2 2] 126)
          have MN := zH (MW.trans (Mv.of_below bN (Nat.le_of_lt P3.out.box.lt)))
          have PN := zH (P3.out.keep bN)
          clear MW bN e1 lW KB K3
          have hr := HR2.out
          rw [Hb.out] at hr
          have hr1 : (if n = 4 then PR.ok (.node xk [] 0 [t, t2]) j2 else pR l f1 n (.node xk [] 0 [t, t2]) j2) = r := hr
          clear hr
          by_cases hn4 : n = 4
          · rw [if_pos hn4] at hr1
            subst hr1
            have ho := HO.out
            rw [decide_eq_true hn4] at ho
            subst ho
            clear hn4
            go_wp2_with fail
            go_ret
            exact ⟨⟨_, rfl, N2.out⟩, MN.out, PN.out⟩
          · rw [if_neg hn4] at hr1
            have HR3 := zH hr1
            have ho := HO.out
            rw [decide_eq_false hn4] at ho
            subst ho
            clear hn4 hr1
            go_wp2_with fail
            go_roundg f1
            case measure => omega
            case rel => exact ⟨_, _, _, by omega, rfl, HR3, N2, MN, PN⟩
end
end Go.Proofs.YtpkggobhhieeoaaDoor
namespace Go.Proofs.YtpkggobhhieeoaaDoor
open Go.RowKit
section
variable {q : Nat} {a : Option Addr} {c sz : Nat} {l : List Tok} {i : Nat} {W : World}
theorem node1 {w : World} {lo k g1 : Nat} {s : List Nat} {t1 : Tr} (hlo : lo ≤ w.heap.size) (h1 : TreeAt w lo t1 g1) :
    TreeAt ((w.alloc (.cells #[.pointer (some ⟨g1, 0, none⟩)] 103)).alloc (.cells #[.int .i64 (k : Int), .string (txt s), .int .i64 0, .slice none 0 0, .slice (some ⟨w.heap.size, 0, none⟩) 1 1] 126)) lo (.node k s 0 [t1]) (w.heap.size + 1) := by
  have hb : Below w.heap.size w ((w.alloc (.cells #[.pointer (some ⟨g1, 0, none⟩)] 103)).alloc (.cells #[.int .i64 (k : Int), .string (txt s), .int .i64 0, .slice none 0 0, .slice (some ⟨w.heap.size, 0, none⟩) 1 1] 126)) :=
    (zB.alloc zL _).alloc (by simp) _
  have hi := High.of_below hb zL lo
  simp only [TreeAt, TreeIn, TreesIn]
  refine ⟨by omega, _, [g1], Blk.new_ (by simp) _ _, ⟨[.pointer (some ⟨g1, 0, none⟩)], ⟨rfl, .inr ⟨w.heap.size, 1, _, rfl, Nat.zero_le _, (Blk.new w 103 #[.pointer (some ⟨g1, 0, none⟩)]).alloc _, Nat.le_refl _, by unfold maxLen; simp, by simp, by simp⟩⟩, rfl, fun j y hy => ?_⟩, (fun b hb => by simp [Value.ownBlock] at hb; omega), g1, [], rfl, h1.high hi, rfl⟩
  rcases j with _ | j
  · injection hy with hy; subst hy; rfl
  · simp at hy
theorem node0 {w : World} {lo k g : Nat} {s : List Nat} {n : Int} (hlo : lo ≤ g) (h : Blk w g 126 #[.int .i64 (k : Int), .string (txt s), .int .i64 n, .slice none 0 0, .slice none 0 0]) : TreeAt w lo (.node k s n []) g := by
  simp only [TreeAt, TreeIn, TreesIn]
  exact ⟨hlo, _, [], h, ⟨[], ⟨rfl, .inl ⟨rfl, rfl⟩⟩, FlatR.nil_⟩, (fun b hb => by cases hb), rfl⟩
theorem Reads.back {W1 : World} {r : PR} {e : Ending} {w' : World} (hm : Mv q W W1) (h : Reads q a c sz l W1 r e w') : Reads q a c sz l W r e w' := by
  cases r with
  | ok t j => exact ⟨⟨h.1.choose, h.1.choose_spec.1, h.1.choose_spec.2.mono hm.low.size⟩, hm.trans h.2.1, h.2.2⟩
  | no j => exact ⟨h.1, hm.trans h.2⟩
  | out => exact h
theorem Reads.get {t : Tr} {j : Nat} {e : Ending} {w' : World} (h : Reads q a c sz l W (.ok t j) e w') : ∃ g, e = .returned (.pointer (some ⟨g, 0, none⟩)) ∧ TreeAt w' W.heap.size t g ∧ Mv q W w' ∧ PSt q a c sz l j w' :=
  ⟨h.1.choose, h.1.choose_spec.1, h.1.choose_spec.2, h.2.1, h.2.2⟩
theorem Reads.mk_ {t : Tr} {j g : Nat} {w' : World} (h1 : TreeAt w' W.heap.size t g) (h2 : Mv q W w') (h3 : PSt q a c sz l j w') : Reads q a c sz l W (.ok t j) (.returned (.pointer (some ⟨g, 0, none⟩))) w' := ⟨⟨g, rfl, h1⟩, h2, h3⟩
theorem below2a (w : World) (o o' : Obj) : Below w.heap.size w ((w.alloc o).alloc o') := (zB.alloc zL o).alloc (by simp) o'
theorem Reads.node1 {w : World} {t : Tr} {j g1 k : Nat} {s : List Nat} (h1 : TreeAt w W.heap.size t g1) (h2 : Mv q W w) (h3 : PSt q a c sz l j w) :
    Reads q a c sz l W (.ok (.node k s 0 [t]) j) (.returned (.pointer (some ⟨w.heap.size + 1, 0, none⟩))) ((w.alloc (.cells #[.pointer (some ⟨g1, 0, none⟩)] 103)).alloc (.cells #[.int .i64 (k : Int), .string (txt s), .int .i64 0, .slice none 0 0, .slice (some ⟨w.heap.size, 0, none⟩) 1 1] 126)) :=
  Reads.mk_ (Go.Proofs.YtpkggobhhieeoaaDoor.node1 h2.low.size h1) (h2.trans (Mv.of_below (below2a w _ _) (Nat.le_of_lt h3.box.lt))) (h3.keep (below2a w _ _))
theorem p_not (f : Nat) (HN : LevelC q a c sz l 94 (fun i => pL l f 3 i)) (HC : LevelC q a c sz l 104 (fun i => pL l f 4 i)) : LevelC q a c sz l 94 (fun i => pL l (f + 1) 3 i) := by
  intro i W h hr
  have hr0 : pL l (f + 1) 3 i = if isT l i notT then (pL l f 3 (i + 1)).bind fun k j => .ok (.node 29 [] 0 [k]) j else pL l f 4 i := by rw [pL]; rfl
  simp only at hr ⊢
  rw [hr0] at hr ⊢
  clear hr0
  obtain ⟨f0, f1, f2, f3, f4⟩ := h.facts
  have hle := h.le
  have hfew := h.few
  have i5 : (i : Int) ≤ 5000 := by omega
  have i0 : (0 : Int) ≤ (i : Int) := Int.natCast_nonneg _
  have H := zH h
  have QL := zH h.box.lt
  obtain ⟨b, hb⟩ : ∃ b, isT l i notT = b := ⟨_, rfl⟩
  have HX := zH (p_next notT (show ∀ n ∈ notT, n < 256 by decide) b hb h)
  have hnx : (txt notT) = ⟨#[110, 111, 116]⟩ := by decide
  rw [hnx] at HX
  cases b with
  | false =>
    rw [hb, if_neg (by simp)] at hr ⊢
    obtain ⟨r, hrr⟩ : ∃ r, pL l f 4 i = r := ⟨_, rfl⟩
    have HC1 : Hid (∀ n, Calls Tryd.prog 104 #[.pointer (some ⟨q, 0, none⟩)] (W.drewN n) (Reads q a c sz l (W.drewN n) r)) := zH (fun n => by rw [← hrr]; exact HC i (W.drewN n) (h.quiet ⟨n, rfl⟩) hr)
    rw [hrr] at hr ⊢
    clear HN HC h hb hle hfew hrr hnx
    cases r with
    | out => exact absurd rfl hr
    | no j =>
      clear hr
      go_enter Tryd.func94, Tryd.ntmps94
      go_wp2_with (first
        | (go_at_call 103; (with_reducible refine HX.out.mono ?_); rintro e w1 ⟨rfl, nq, rfl⟩)
        | (go_at_call 104; refine (HC1.out _).mono ?_; rintro e w2 ⟨rfl, h2⟩; have M2 := zH h2; clear h2))
      exact ⟨rfl, rfl, (Mv.quiet ⟨_, rfl⟩).trans M2.out⟩
    | ok t j =>
      clear hr
      go_enter Tryd.func94, Tryd.ntmps94
      go_wp2_with (first
        | (go_at_call 103; (with_reducible refine HX.out.mono ?_); rintro e w1 ⟨rfl, nq, rfl⟩)
        | (go_at_call 104; refine (HC1.out _).mono ?_; rintro e w2 h2; obtain ⟨g, rfl, h3, h4, h5⟩ := h2.get; have M2 := zH (And.intro h3 (And.intro h4 h5)); clear h2 h3 h4 h5))
      go_ret
      exact (Reads.mk_ M2.out.1 M2.out.2.1 M2.out.2.2).back (Mv.quiet ⟨_, rfl⟩)
  | true =>
    rw [hb, if_pos rfl] at hr ⊢
    obtain ⟨r, hrr⟩ : ∃ r, pL l f 3 (i + 1) = r := ⟨_, rfl⟩
    have hlt := isT_lt hb
    have ST := zH (fun n => h.step (j := i + 1) (u := .int .i64 ((i : Int) + 1)) (by go_num) hlt n)
    have hne : r ≠ .out := fun e => hr (by rw [hrr, e]; rfl)
    have HC1 : Hid (∀ n, Calls Tryd.prog 94 #[.pointer (some ⟨q, 0, none⟩)] ((W.drewN n).setCell ⟨q, 1, none⟩ (.int .i64 ((i : Int) + 1))) (Reads q a c sz l ((W.drewN n).setCell ⟨q, 1, none⟩ (.int .i64 ((i : Int) + 1))) r)) := zH (fun n => by have hq := (ST.out n).2; rw [← hrr]; exact HN (i + 1) _ hq (by show pL l f 3 (i + 1) ≠ .out; rw [hrr]; exact hne))
    rw [hrr]
    clear HN HC h hb hle hfew hrr hr hlt hnx
    cases r with
    | out => exact absurd rfl hne
    | no j =>
      clear hne
      go_enter Tryd.func94, Tryd.ntmps94
      go_wp2_with (first
        | (go_at_call 103; (with_reducible refine HX.out.mono ?_); rintro e w1 ⟨rfl, nq, rfl⟩)
        | (go_at_call 94; refine (HC1.out _).mono ?_; rintro e w2 ⟨rfl, h2⟩; have M2 := zH h2; clear h2))
      exact ⟨rfl, rfl, (ST.out _).1.trans M2.out⟩
    | ok t j =>
      clear hne
      go_enter Tryd.func94, Tryd.ntmps94
      go_wp2_with (first
        | (go_at_call 103; (with_reducible refine HX.out.mono ?_); rintro e w1 ⟨rfl, nq, rfl⟩)
        | (go_at_call 94; refine (HC1.out _).mono ?_; rintro e w2 h2; obtain ⟨g, rfl, h3, h4, h5⟩ := h2.get; have M2 := zH (And.intro h3 (And.intro h4 h5)); clear h2 h3 h4 h5)
        | (go_at_call 93; refine (p_of 29 [] _ _ _ _).mono ?_; rintro e w4 ⟨rfl, rfl⟩))
      go_ret
      exact Reads.back (ST.out _).1 (Reads.node1 M2.out.1 M2.out.2.1 M2.out.2.2)
theorem p_post (f : Nat) (HP : LevelC q a c sz l 110 (fun i => pP l f i)) : LevelC q a c sz l 109 (fun i => pL l (f + 1) 7 i) := by
  intro i W h hr
  have hr0 : pL l (f + 1) 7 i = (pP l f i).bind fun t j => pQ l f t j := by rw [pL]; rfl
  simp only at hr ⊢
  rw [hr0] at hr ⊢
  obtain ⟨r, hr1⟩ : ∃ r, ((pP l f i).bind fun t j => pQ l f t j) = r := ⟨_, rfl⟩
  rw [hr1] at hr ⊢
  have H := zH h
  have QL := zH h.box.lt
  clear hr0
  cases hb : pP l f i with
  | out => rw [hb] at hr1; exact absurd hr1.symm hr
  | no j =>
    rw [hb] at hr1
    have HF : Hid (Calls Tryd.prog 110 #[.pointer (some ⟨q, 0, none⟩)] W (Reads q a c sz l W (.no j))) := zH (by rw [← hb]; exact HP i W h (by simp [hb]))
    have hr2 : PR.no j = r := hr1
    subst hr2
    clear HP h hr1 hb hr
    go_enter Tryd.func109, Tryd.ntmps109
    go_wp2_with (first
      | (go_at_call 110; refine HF.out.mono ?_; rintro e w1 ⟨rfl, h1⟩; have M1 := zH h1; clear h1))
    exact ⟨rfl, rfl, M1.out⟩
  | ok t j =>
    rw [hb] at hr1
    have HF : Hid (Calls Tryd.prog 110 #[.pointer (some ⟨q, 0, none⟩)] W (Reads q a c sz l W (.ok t j))) := zH (by rw [← hb]; exact HP i W h (by simp [hb]))
    have hr2 : pQ l f t j = r := hr1
    have HR := zH hr2
    have HNE := zH hr
    clear HP h hr1 hb hr hr2
    go_enter Tryd.func109, Tryd.ntmps109
    go_wp2_with (first
      | (go_at_call 110; refine HF.out.mono ?_; rintro e w1 h2; obtain ⟨g1, rfl, h3, h4, h5⟩ := h2.get; have T1 := zH h3; have M1 := zH h4; have P1 := zH h5; clear h2 h3 h4 h5))
    go_loopg [2, 3, 4, 5, 6] f (fun gk _ v _ _ _ wr => ∃ (t : Tr) (j g : Nat), v = .pointer (some ⟨g, 0, none⟩) ∧ Hid (pQ l gk t j = r) ∧ Hid (TreeAt wr W.heap.size t g) ∧ Hid (Mv q W wr) ∧ Hid (PSt q a c sz l j wr))
    case atStart => exact ⟨t, j, g1, rfl, HR, T1, M1, P1⟩
    case round =>
      clear T1 M1 P1 HF HR
      obtain ⟨t, j, g, rfl, hr, ht, hm, hp⟩ := hrel
      have HR := hr
      have HT := ht
      have HM := hm
      have HP := hp
      clear hr ht hm hp
      cases gk with
      | zero =>
        exfalso
        have := HR.out
        rw [pQ] at this
        exact HNE.out this.symm
      | succ f1 =>
      have hr := HR.out
      rw [pQ, signK_find] at hr
      obtain ⟨R, hR⟩ : ∃ R, signsL.find? (signP l 7 j) = R := ⟨_, rfl⟩
      have HS : Hid (Calls Tryd.prog 92 #[.pointer (some ⟨q, 0, none⟩), .int .i64 7] wr fun e w' => SignIs q a c sz l j wr R e w') := zH (p_sign0 7 HP.out R hR)
      rw [hR] at hr
      cases R with
      | none =>
        rw [if_pos rfl] at hr
        subst hr
        clear hR
        go_wp2_with (first
          | (go_at_call 92; (with_reducible refine HS.out.mono ?_); rintro e w2 ⟨rfl, h2, h3⟩; have M2 := zH h2; have P2 := zH h3; clear h2 h3))
        go_ret
        have ha := (Below.refl w2.heap.size w2).alloc zL (.cells #[.string ByteArray.empty, .int .i64 0, .int .i64 0] 137)
        exact ⟨⟨g, rfl, (HT.out.high (High.of_mv M2.out QL.out)).high (High.of_below ha zL _)⟩, (HM.out.trans M2.out).trans (Mv.of_below ha (Nat.le_trans (Nat.le_of_lt QL.out) (Nat.le_trans HM.out.low.size M2.out.low.size))), P2.out.keep ha⟩
      | some x =>
        obtain ⟨xt, xk, xl⟩ := x
        have hk0 : xk ≠ 0 := by
          have : ∀ m ∈ signsL, m.2.1 ≠ 0 := by decide
          exact this _ (List.mem_of_find?_eq_some hR)
        dsimp only at hr
        rw [if_neg hk0] at hr
        clear hR hk0
        by_cases hk11 : xk = 11
        · subst hk11
          rw [if_pos rfl] at hr
          have HR2 := zH hr
          clear hr
          go_wp2_with (first
            | (go_at_call 92; (with_reducible refine HS.out.mono ?_); rintro e w2 ⟨rfl, h2, h3⟩; have M2 := zH h2; have P2 := zH h3; clear h2 h3)
            | (go_at_call 93; refine (p_of 11 [] _ _ _ _).mono ?_; rintro e w4 ⟨rfl, rfl⟩))
          have ba := (Below.refl w2.heap.size w2).alloc zL (.cells #[.string (txt xt), .int .i64 11, .int .i64 (xl : Int)] 137)
          have TB := (HT.out.high (High.of_mv M2.out QL.out)).high (High.of_below ba zL _)
          have MB := (HM.out.trans M2.out).trans (Mv.of_below (q := q) ba (Nat.le_of_lt P2.out.box.lt))
          have PB := P2.out.keep ba
          have N2 := zH (Go.Proofs.YtpkggobhhieeoaaDoor.node1 (k := 11) (s := []) (lo := W.heap.size) (w := w2.alloc (.cells #[.string (txt xt), .int .i64 11, .int .i64 (xl : Int)] 137)) MB.low.size TB)
          have MN := zH (MB.trans (Mv.of_below (q := q) (below2a (w2.alloc (.cells #[.string (txt xt), .int .i64 11, .int .i64 (xl : Int)] 137)) (.cells #[.pointer (some ⟨g, 0, none⟩)] 103) (.cells #[.int .i64 ((11 : Nat) : Int), .string (txt []), .int .i64 0, .slice none 0 0, .slice (some ⟨(w2.alloc (.cells #[.string (txt xt), .int .i64 11, .int .i64 (xl : Int)] 137)).heap.size, 0, none⟩) 1 1] 126)) (Nat.le_of_lt PB.box.lt)))
          have PN := zH (PB.keep (below2a (w2.alloc (.cells #[.string (txt xt), .int .i64 11, .int .i64 (xl : Int)] 137)) (.cells #[.pointer (some ⟨g, 0, none⟩)] 103) (.cells #[.int .i64 ((11 : Nat) : Int), .string (txt []), .int .i64 0, .slice none 0 0, .slice (some ⟨(w2.alloc (.cells #[.string (txt xt), .int .i64 11, .int .i64 (xl : Int)] 137)).heap.size, 0, none⟩) 1 1] 126)))
          go_roundg f1
          case measure => omega
          case rel => exact ⟨_, _, _, rfl, HR2, zH (by have := N2.out; simp only [World.size_alloc] at this; exact this), zH (by have := MN.out; simp only [World.size_alloc] at this; exact this), zH (by have := PN.out; simp only [World.size_alloc] at this; exact this)⟩
        · rw [if_neg hk11] at hr
          have d1 : (((xk : Int)) != 11) = true := by simp; omega
          unfold nameAt at hr
          by_cases hnm : ∃ tk, l[j + 1]? = some tk ∧ tk.kind = 3
          · obtain ⟨tk, htk, hkd⟩ := hnm
            rw [htk] at hr
            simp only at hr
            rw [if_pos hkd] at hr
            have HR2 := zH hr
            have HN := zH (fun X (hX : PSt q a c sz l (j + 1) X) => p_name_yes htk hkd hX)
            clear hr htk hkd hk11
            go_wp2_with (first
              | (go_at_call 92; (with_reducible refine HS.out.mono ?_); rintro e w2 ⟨rfl, h2, h3⟩; have M2 := zH h2; have P2 := zH h3; clear h2 h3)
              | (go_at_call 111; refine (HN.out _ (P2.out.keep ((Below.refl w2.heap.size w2).alloc zL (.cells #[.string (txt xt), .int .i64 (xk : Int), .int .i64 (xl : Int)] 137)))).mono ?_; rintro e w3 ⟨rfl, h2, h3⟩; have K3 : w3.cell? ⟨w2.heap.size, 1, none⟩ = some (.int .i64 (xk : Int)) := h2.cell P2.out.box.lt ((Blk.new w2 137 #[.string (txt xt), .int .i64 (xk : Int), .int .i64 (xl : Int)]).cell rfl); have M3 := zH h2; have P3 := zH h3; clear h2 h3)
              | (go_at_call 93; refine (p_of xk tk.text _ _ _ _).mono ?_; rintro e w4 ⟨rfl, rfl⟩))
            have ba := (Below.refl w2.heap.size w2).alloc zL (.cells #[.string (txt xt), .int .i64 (xk : Int), .int .i64 (xl : Int)] 137)
            have TB := ((HT.out.high (High.of_mv M2.out QL.out)).high (High.of_below ba zL _)).high (High.of_mv M3.out QL.out)
            have MB := ((HM.out.trans M2.out).trans (Mv.of_below (q := q) ba (Nat.le_of_lt P2.out.box.lt))).trans M3.out
            have PB := P3.out
            have N2 := zH (Go.Proofs.YtpkggobhhieeoaaDoor.node1 (k := xk) (s := tk.text) (lo := W.heap.size) (w := w3) MB.low.size TB)
            have MN := zH (MB.trans (Mv.of_below (q := q) (below2a (w3) (.cells #[.pointer (some ⟨g, 0, none⟩)] 103) (.cells #[.int .i64 ((xk : Nat) : Int), .string (txt tk.text), .int .i64 0, .slice none 0 0, .slice (some ⟨(w3).heap.size, 0, none⟩) 1 1] 126)) (Nat.le_of_lt PB.box.lt)))
            have PN := zH (PB.keep (below2a (w3) (.cells #[.pointer (some ⟨g, 0, none⟩)] 103) (.cells #[.int .i64 ((xk : Nat) : Int), .string (txt tk.text), .int .i64 0, .slice none 0 0, .slice (some ⟨(w3).heap.size, 0, none⟩) 1 1] 126)))
            go_roundg f1
            case measure => omega
            case rel => exact ⟨_, _, _, rfl, HR2, N2, MN, PN⟩
          · have hno : r = .no (j + 1) := by
              rw [← hr]
              cases htk : l[j + 1]? with
              | none => rfl
              | some tk => exact if_neg fun e => hnm ⟨tk, htk, e⟩
            subst hno
            have HN := zH (fun X (hX : PSt q a c sz l (j + 1) X) => p_name_no (fun t ht e => hnm ⟨t, ht, e⟩) hX)
            clear hr hk11 hnm
            go_wp2_with (first
              | (go_at_call 92; (with_reducible refine HS.out.mono ?_); rintro e w2 ⟨rfl, h2, h3⟩; have M2 := zH h2; have P2 := zH h3; clear h2 h3)
              | (go_at_call 111; refine (HN.out _ (P2.out.keep ((Below.refl w2.heap.size w2).alloc zL (.cells #[.string (txt xt), .int .i64 (xk : Int), .int .i64 (xl : Int)] 137)))).mono ?_; rintro e w3 ⟨rfl, h2⟩; have M3 := zH h2; clear h2))
            have ba := (Below.refl w2.heap.size w2).alloc zL (.cells #[.string (txt xt), .int .i64 (xk : Int), .int .i64 (xl : Int)] 137)
            exact ⟨rfl, rfl, ((HM.out.trans M2.out).trans (Mv.of_below (q := q) ba (Nat.le_of_lt P2.out.box.lt))).trans (Mv.quiet M3.out)⟩
end
end Go.Proofs.YtpkggobhhieeoaaDoor
namespace Go.Proofs.YtpkggobhhieeoaaDoor
open Go.RowKit
theorem info_ptr : (Tryd.prog.info? 103).map (fun i => (i.zero, i.size, i.bytes)) = some (some (.pointer none), 1, 8) := by kernel_rfl
structure WS (q : Nat) (a : Option Addr) (c sz : Nat) (l : List Tok) (W : World) (g k : Nat) (s : List Nat) (ts : List Tr) (j : Nat) (X : World) (v : Value) : Prop where
  mv : Mv q W X
  st : PSt q a c sz l j X
  box : Blk X g 126 #[.int .i64 (k : Int), .string (txt s), .int .i64 0, .slice none 0 0, v]
  lo : W.heap.size ≤ g
  ql : q < W.heap.size
  row : ∃ gs, Own1 X (g + 1) 103 1 IsPtr v gs ∧ TreesIn X (fun b => g + 1 ≤ b ∧ v.ownBlock ≠ some b) ts gs
section
variable {q : Nat} {a : Option Addr} {c sz : Nat} {l : List Tok} {W : World} {g k : Nat} {s : List Nat} {ts : List Tr} {j : Nat} {X : World} {v : Value}
theorem WS.new {X0 : World} (hm : Mv q W X0) (hp : PSt q a c sz l j X0) (hq : q < W.heap.size) : WS q a c sz l W X0.heap.size k s [] j (X0.alloc (.cells #[.int .i64 (k : Int), .string (txt s), .int .i64 0, .slice none 0 0, .slice none 0 0] 126)) (.slice none 0 0) := by
  have hb := (Below.refl X0.heap.size X0).alloc zL (.cells #[.int .i64 (k : Int), .string (txt s), .int .i64 0, .slice none 0 0, .slice none 0 0] 126)
  exact ⟨hm.trans (Mv.of_below hb (Nat.le_of_lt hp.box.lt)), hp.keep hb, Blk.new _ _ _, hm.low.size, hq, [], ⟨[], ⟨rfl, .inl ⟨rfl, rfl⟩⟩, FlatR.nil_⟩, rfl⟩
theorem WS.call (h : WS q a c sz l W g k s ts j X v) {X' : World} {j' : Nat} (hm : Mv q X X') (hp : PSt q a c sz l j' X') : WS q a c sz l W g k s ts j' X' v := by
  obtain ⟨gs, h1, h2⟩ := h.row
  have hg : q < g := Nat.lt_of_lt_of_le h.ql h.lo
  refine ⟨h.mv.trans hm, hp, hm.blk h.box hg, h.lo, h.ql, gs, h1.stay (fun b hb hl => hm.high b ?_ hl), h2.stay (fun b hb hl => hm.high b (by omega) hl)⟩
  have := (h1.block b hb).1
  omega
theorem WS.quiet (h : WS q a c sz l W g k s ts j X v) {X' : World} (hq : Quiet X X') : WS q a c sz l W g k s ts j X' v := h.call (Mv.quiet hq) (h.st.quiet hq)
theorem WS.tree (h : WS q a c sz l W g k s ts j X v) : TreeAt X W.heap.size (.node k s 0 ts) g := by
  obtain ⟨gs, h1, h2⟩ := h.row
  have hlo := h.lo
  simp only [TreeAt, TreeIn]
  exact ⟨h.lo, v, gs, h.box, h1.mono (Nat.zero_le _), fun b hb => by have := (h1.block b hb).1; omega, h2.imp (fun b hb _ => by omega)⟩
theorem WS.reads (h : WS q a c sz l W g k s ts j X v) : Reads q a c sz l W (.ok (.node k s 0 ts) j) (.returned (.pointer (some ⟨g, 0, none⟩))) X := Reads.mk_ h.tree h.mv h.st
theorem WS.name (h : WS q a c sz l W g k s ts j X v) {s' : List Nat} {u : Value} (hu : u = .string (txt s')) : WS q a c sz l W g k s' ts j (X.setCell ⟨g, 1, none⟩ u) v := by
  subst hu
  obtain ⟨gs, h1, h2⟩ := h.row
  have hg : q < g := Nat.lt_of_lt_of_le h.ql h.lo
  have hst : ∀ b, g + 1 ≤ b → (X.setCell ⟨g, 1, none⟩ (.string (txt s'))).heap[b]? = X.heap[b]? := fun b hb => Below.heap_setCell X ⟨g, 1, none⟩ _ b (by show b ≠ g; omega)
  refine ⟨h.mv.setNew (p := ⟨g, 1, none⟩) _ (Nat.le_of_lt hg) h.lo, h.st.setFar (p := ⟨g, 1, none⟩) _ hg, by have := h.box.set_ 1 (.string (txt s')); simpa using this, h.lo, h.ql, gs, h1.stay (fun b hb _ => hst b (h1.block b hb).1), h2.stay (fun b hb _ => hst b hb.1)⟩
theorem WS.cells (h : WS q a c sz l W g k s ts j X v) : X.cell? ⟨g, 0, none⟩ = some (.int .i64 (k : Int)) ∧ X.cell? ⟨g, 1, none⟩ = some (.string (txt s)) ∧ X.cell? ⟨g, 4, none⟩ = some v ∧ X.frozen? ⟨g, 1, none⟩ = false ∧ X.frozen? ⟨g, 4, none⟩ = false ∧ g < X.heap.size :=
  ⟨h.box.cell rfl, h.box.cell rfl, h.box.cell rfl, h.box.frozen 1, h.box.frozen 4, h.box.lt⟩
theorem own_ptr {base : Nat} {gs : List Nat} (h : Own1 X base 103 1 IsPtr v gs) : X.ownsRow base 103 1 v gs.length (gs.map fun x => Value.pointer (some ⟨x, 0, none⟩)) := by
  obtain ⟨xs, h1, h2⟩ := h
  have : xs = gs.map fun x => Value.pointer (some ⟨x, 0, none⟩) := by
    apply List.ext_getElem?
    intro i
    have hl := h2.1
    rw [Nat.mul_one] at hl
    rcases Nat.lt_or_ge i gs.length with hi | hi
    · have := h2.2 i gs[i] (List.getElem?_eq_getElem hi)
      unfold IsPtr at this
      rw [Nat.mul_one] at this
      have e : ((xs.drop i).take 1)[0]? = xs[i]? := by rw [List.getElem?_take_of_lt (by omega), List.getElem?_drop, Nat.add_zero]
      rw [← e, this, List.getElem?_map, List.getElem?_eq_getElem hi]
      rfl
    · rw [List.getElem?_eq_none (by omega), List.getElem?_eq_none (by simp; omega)]
  rw [← this]
  exact h1
theorem TreesIn.len {S : Nat → Prop} : ∀ {ts : List Tr} {gs : List Nat}, TreesIn X S ts gs → gs.length = ts.length
  | [], gs, h => by simp only [TreesIn] at h; subst h; rfl
  | t :: ts, gs, h => by simp only [TreesIn] at h; obtain ⟨g', gs', rfl, _, h3⟩ := h; simp [TreesIn.len h3]
theorem news1 (w : World) (p : Value) (T : TypeId) : ∀ j u, [p][j]? = some u → (w.alloc (.cells #[p] T)).cell? ((⟨w.heap.size, 0, none⟩ : Addr).add j) = some u := by
  intro j u hu
  rcases j with _ | j
  · have hp : p = u := by simpa using hu
    subst hp
    exact (Blk.new w T #[p]).cell rfl
  · simp at hu
theorem WS.own4 (h : WS q a c sz l W g k s ts j X v) {gs : List Nat} (h1 : Own1 X (g + 1) 103 1 IsPtr v gs) {Xd w3 : World} (hd : Quiet X Xd) (hm : Mv q Xd w3) (o : Obj) (n : Nat) (hn : gs.length = n) : (w3.alloc o).ownsRow (g + 1) 103 1 v n (gs.map fun x => Value.pointer (some ⟨x, 0, none⟩)) := by
  subst hn
  have hg : q < g := Nat.lt_of_lt_of_le h.ql h.lo
  refine own_ptr (Own1.alloc (Own1.stay h1 (fun b hb hl => ?_)) o)
  have := (h1.block b hb).1
  obtain ⟨m, rfl⟩ := hd
  exact hm.high b (by omega) hl
theorem WS.box5 (h : WS q a c sz l W g k s ts j X v) {Xd w3 w5 : World} (hd : Quiet X Xd) (hm : Mv q Xd w3) (o : Obj) (hgrow : (w3.alloc o).grownBy w5 v.ownBlock) : Blk w5 g 126 #[.int .i64 (k : Int), .string (txt s), .int .i64 0, .slice none 0 0, v] := by
  obtain ⟨gs, h1, h2⟩ := h.row
  have hg : q < g := Nat.lt_of_lt_of_le h.ql h.lo
  have b3 := hm.blk (h.quiet hd).box hg
  refine (b3.alloc o).keep (hgrow.block g (by have := b3.lt; rw [World.size_alloc]; omega) (fun e => ?_))
  have := (h1.block g e.symm).1
  omega
theorem WS.push (h : WS q a c sz l W g k s ts j X v) {Xd w3 w5 : World} {t : Tr} {g1 j' b cap n : Nat} {xs : List Value} {u : Value} (hd : Quiet X Xd) (hm : Mv q Xd w3) (ht : TreeAt w3 X.heap.size t g1) (hp : PSt q a c sz l j' w3)
    {gs : List Nat} (h1 : Own1 X (g + 1) 103 1 IsPtr v gs) (h2 : TreesIn X (fun b => g + 1 ≤ b ∧ v.ownBlock ≠ some b) ts gs) (hl : gs.length = n) (hx : xs = gs.map fun x => Value.pointer (some ⟨x, 0, none⟩))
    (hown : w5.ownsRow (g + 1) 103 1 (.slice (some ⟨b, 0, none⟩) (n + 1) cap) (n + 1) (xs ++ [.pointer (some ⟨g1, 0, none⟩)]))
    (hgrow : (w3.alloc (.cells #[.pointer (some ⟨g1, 0, none⟩)] 103)).grownBy w5 v.ownBlock) (hat : v.ownBlock = some b ∨ b = w3.heap.size + 1) (hu : u = .slice (some ⟨b, 0, none⟩) (n + 1) cap) :
    WS q a c sz l W g k s (ts ++ [t]) j' (w5.setCell ⟨g, 4, none⟩ u) (.slice (some ⟨b, 0, none⟩) (n + 1) cap) := by
  subst hu
  have h' := h.quiet hd
  have hg : q < g := Nat.lt_of_lt_of_le h.ql h.lo
  have hgX := h.box.lt
  have hsz : Xd.heap.size = X.heap.size := by obtain ⟨m, rfl⟩ := hd; rfl
  have hvb : ∀ b', v.ownBlock = some b' → g + 1 ≤ b' ∧ b' < X.heap.size := fun b' hb' => h1.block b' hb'
  have hsz3 := hm.low.size
  have h4 : ∀ b', b' < w3.heap.size → (w3.alloc (.cells #[.pointer (some ⟨g1, 0, none⟩)] 103)).heap[b']? = w3.heap[b']? := fun b' hb' => Below.heap_alloc w3 _ b' hb'
  have h5 : ∀ b', b' < w3.heap.size → v.ownBlock ≠ some b' → w5.heap[b']? = w3.heap[b']? := fun b' hb' hne => (hgrow.block b' (by rw [World.size_alloc]; omega) (fun e => hne e.symm)).trans (h4 b' hb')
  have h6 : ∀ b', b' ≠ g → (w5.setCell ⟨g, 4, none⟩ (.slice (some ⟨b, 0, none⟩) (n + 1) cap)).heap[b']? = w5.heap[b']? := fun b' hb' => Below.heap_setCell w5 ⟨g, 4, none⟩ _ b' hb'
  have hsz5 : w3.heap.size + 1 ≤ w5.heap.size := by have := hgrow.size; rw [World.size_alloc] at this; exact this
  have hqv : v.ownBlock ≠ some q := fun e => by have := hvb q e; omega
  have hgv : v.ownBlock ≠ some g := fun e => by have := hvb g e; omega
  have hW3 : W.heap.size ≤ X.heap.size := h.mv.low.size
  have hb1 : ∀ b', X.heap.size ≤ b' → b' < w3.heap.size → b' ≠ b := fun b' k1 k2 e => by
    rcases hat with e2 | e2
    · have := hvb b e2; omega
    · omega
  -- the parser's state
  have st4 := hp.keep ((Below.refl w3.heap.size w3).alloc zL (.cells #[.pointer (some ⟨g1, 0, none⟩)] 103))
  have bl5 : Below g (w3.alloc (.cells #[.pointer (some ⟨g1, 0, none⟩)] 103)) w5 := zB.grown hgrow (by rw [World.size_alloc]; omega) (fun b' hb' => by have := hvb b' hb'; omega)
  have st5 : PSt q a c sz l j' w5 := st4.mv (bl5.mono (Nat.le_of_lt hg)) (st4.box.below bl5 hg) st4.le
  have mv3 : Mv q W w3 := h'.mv.trans hm
  have mv5 : Mv q W w5 := by
    refine ⟨(mv3.low.trans ((Below.refl w3.heap.size w3).alloc zL _ |>.mono (by have := hp.box.lt; omega))).trans (bl5.mono (Nat.le_of_lt hg)), fun b' k1 k2 => ?_⟩
    rw [h5 b' (by have := mv3.low.size; omega) (fun e => by have := hvb b' e; have := h.lo; omega)]
    exact mv3.high b' k1 k2
  have bx3 : Blk w3 g 126 #[.int .i64 (k : Int), .string (txt s), .int .i64 0, .slice none 0 0, v] := hm.blk h'.box hg
  have bx5 : Blk w5 g 126 #[.int .i64 (k : Int), .string (txt s), .int .i64 0, .slice none 0 0, v] := bx3.keep (h5 g (by omega) hgv)
  refine ⟨mv5.setNew (p := ⟨g, 4, none⟩) _ (Nat.le_of_lt hg) h.lo, st5.setFar (p := ⟨g, 4, none⟩) _ hg, by have := bx5.set_ 4 (.slice (some ⟨b, 0, none⟩) (n + 1) cap); simpa using this, h.lo, h.ql, gs ++ [g1], ?_, ?_⟩
  · refine Own1.stay (w := w5) ⟨_, by rw [List.length_append, hl]; exact hown, ?_⟩ (fun b' hb' _ => h6 b' ?_)
    · rw [hx]
      refine ⟨by simp, fun i y hy => ?_⟩
      have e : (gs.map fun x => Value.pointer (some ⟨x, 0, none⟩)) ++ [Value.pointer (some ⟨g1, 0, none⟩)] = (gs ++ [g1]).map fun x => Value.pointer (some ⟨x, 0, none⟩) := by simp
      rw [e, Nat.mul_one]
      unfold IsPtr
      have hlt := (List.getElem?_eq_some_iff.1 hy).1
      apply List.ext_getElem?
      intro m
      rw [List.getElem?_take]
      rcases m with _ | m
      · simp only [Nat.zero_lt_one, if_true, List.getElem?_drop, Nat.add_zero, List.getElem?_map, hy, Option.map_some]
        rfl
      · simp
    · have : b' = b := by simp [Value.ownBlock] at hb'; exact hb'.symm
      subst this
      rcases hat with e2 | e2
      · have := hvb b' e2; omega
      · omega
  · refine TreesIn.app ?_ ?_
    · have t3 : TreesIn (w5.setCell ⟨g, 4, none⟩ (.slice (some ⟨b, 0, none⟩) (n + 1) cap)) (fun b' => (g + 1 ≤ b' ∧ v.ownBlock ≠ some b') ∧ b' < X.heap.size) ts gs := by
        refine TreesIn.stay (w := X) (fun b' hb' hl => ?_) (h2.imp (fun b' hb' hl => ⟨hb', hl⟩))
        rw [h6 b' (by omega), h5 b' (by omega) hb'.1.2, hm.high b' (by omega) (by omega)]
        obtain ⟨m, rfl⟩ := hd
        rfl
      refine t3.imp (fun b' hb' _ => ⟨hb'.1.1, fun e => ?_⟩)
      have e' : b = b' := by simpa [Value.ownBlock] using e
      subst e'
      rcases hat with e2 | e2
      · exact hb'.1.2 e2
      · omega
    · have t3 : TreeIn (w5.setCell ⟨g, 4, none⟩ (.slice (some ⟨b, 0, none⟩) (n + 1) cap)) (fun b' => X.heap.size ≤ b' ∧ b' < w3.heap.size) t g1 := by
        refine TreeIn.stay (w := w3) (fun b' hb' hl => ?_) (TreeIn.imp (fun b' hb' hl => ⟨hb', hl⟩) ht)
        rw [h6 b' (by omega), h5 b' hl (fun e => by have := hvb b' e; omega)]
      refine t3.imp (fun b' hb' _ => ⟨by omega, fun e => ?_⟩)
      have e' : b = b' := by simpa [Value.ownBlock] using e
      subst e'
      exact hb1 b hb'.1 hb'.2 rfl
end
end Go.Proofs.YtpkggobhhieeoaaDoor
