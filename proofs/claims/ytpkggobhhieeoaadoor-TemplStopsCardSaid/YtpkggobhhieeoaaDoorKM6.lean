/- - - - - -/
import Derived.Test.YtpkggobhhieeoaaDoorKM5
set_option maxRecDepth 100000
set_option maxHeartbeats 32000000
set_option linter.unusedSimpArgs false
set_option linter.unusedVariables false
namespace Go.Proofs.YtpkggobhhieeoaaDoor
open Go.RowKit
section
variable {q : Nat} {a : Option Addr} {c sz : Nat} {l : List Tok} {i : Nat} {W : World}
def Reads (q : Nat) (a : Option Addr) (c sz : Nat) (l : List Tok) (W : World) : PR → Ending → World → Prop
  | .ok t j, e, w' => (∃ g, e = .returned (.pointer (some ⟨g, 0, none⟩)) ∧ TreeAt w' W.heap.size t g) ∧ Mv q W w' ∧ PSt q a c sz l j w'
  | .no j, e, w' => e = .panicked (thrownE (placeAt l sz j)) ∧ Mv q W w'
  | .out, _, _ => False
def LevelC (q : Nat) (a : Option Addr) (c sz : Nat) (l : List Tok) (fn : FuncId) (rd : Nat → PR) : Prop :=
  ∀ (i : Nat) (W : World), PSt q a c sz l i W → rd i ≠ .out → Calls Tryd.prog fn #[.pointer (some ⟨q, 0, none⟩)] W (Reads q a c sz l W (rd i))
theorem Mv.cell {W W' : World} (h : Mv q W W') {p : Addr} {u : Value} (hp : q < p.block) (hc : W.cell? p = some u) : W'.cell? p = some u := by
  have hlt : p.block < W.heap.size := cell_lt hc
  have hh := h.high p.block hp hlt
  unfold World.cell? at hc ⊢
  rw [hh]
  exact hc
theorem node2 {w : World} {lo k g1 g2 : Nat} {t1 t2 : Tr} (hlo : lo ≤ w.heap.size) (h1 : TreeAt w lo t1 g1) (h2 : TreeAt w lo t2 g2) :
    TreeAt ((w.alloc (.cells #[.pointer (some ⟨g1, 0, none⟩), .pointer (some ⟨g2, 0, none⟩)] 103)).alloc (.cells #[.int .i64 (k : Int), .string (txt []), .int .i64 0, .slice none 0 0, .slice (some ⟨w.heap.size, 0, none⟩) 2 2] 126)) lo (.node k [] 0 [t1, t2]) (w.heap.size + 1) := by
  have hb : Below w.heap.size w ((w.alloc (.cells #[.pointer (some ⟨g1, 0, none⟩), .pointer (some ⟨g2, 0, none⟩)] 103)).alloc (.cells #[.int .i64 (k : Int), .string (txt []), .int .i64 0, .slice none 0 0, .slice (some ⟨w.heap.size, 0, none⟩) 2 2] 126)) :=
    (zB.alloc zL _).alloc (by simp) _
  have hi := High.of_below hb zL lo
  simp only [TreeAt, TreeIn, TreesIn]
  refine ⟨by omega, _, [g1, g2], Blk.new_ (by simp) _ _, ⟨[.pointer (some ⟨g1, 0, none⟩), .pointer (some ⟨g2, 0, none⟩)], ⟨rfl, .inr ⟨w.heap.size, 2, _, rfl, Nat.zero_le _, (Blk.new w 103 #[.pointer (some ⟨g1, 0, none⟩), .pointer (some ⟨g2, 0, none⟩)]).alloc _, Nat.le_refl _, by unfold maxLen; simp, by simp, by simp⟩⟩, rfl, fun j y hy => ?_⟩, (fun b hb => by simp [Value.ownBlock] at hb; omega), g1, [g2], rfl, h1.high hi, g2, [], rfl, h2.high hi, rfl⟩
  rcases j with _ | _ | j
  · injection hy with hy; subst hy; rfl
  · injection hy with hy; subst hy; rfl
  · simp at hy
def rowR (l : List Tok) (f n i : Nat) : PR := (pL l f (n + 1) i).bind fun t j => pR l f n t j
theorem p_row (n f : Nat) (fB : FuncId) (once : Bool) (honce : once = decide (n = 4))
    (hcall : ∀ args w, (callFunc fB args).run Tryd.prog w = .ok (.enter fB args) w)
    (HB : ∀ f', f' ≤ f → LevelC q a c sz l fB (fun i => pL l f' (n + 1) i)) (h : PSt q a c sz l i W) (hr : rowR l f n i ≠ .out) :
    Calls Tryd.prog 78 #[.pointer (some ⟨q, 0, none⟩), .int .i64 (n : Int), .func (.func fB) #[.pointer (some ⟨q, 0, none⟩)] #[], .bool once] W (Reads q a c sz l W (rowR l f n i)) := by
  obtain ⟨r, hr0⟩ : ∃ r, rowR l f n i = r := ⟨_, rfl⟩
  rw [hr0] at hr ⊢
  unfold rowR at hr0
  have H := zH h
  have HBf : Hid (pL l f (n + 1) i ≠ .out → Calls Tryd.prog fB #[.pointer (some ⟨q, 0, none⟩)] W (Reads q a c sz l W (pL l f (n + 1) i))) := zH (HB f zL i W h)
  have HBs := zH (fun (f' : Nat) (hf : f' ≤ f) (i : Nat) (X : World) (hX : PSt q a c sz l i X) (hne : pL l f' (n + 1) i ≠ .out) => (show Calls Tryd.prog fB #[.pointer (some ⟨q, 0, none⟩)] X (Reads q a c sz l X (pL l f' (n + 1) i)) from HB f' hf i X hX hne))
  have HO := zH honce
  have QL := zH h.box.lt
  clear HB h honce
  cases hb : pL l f (n + 1) i with
  | out => rw [hb] at hr0; exact absurd hr0.symm hr
  | no j =>
    rw [hb] at hr0 HBf
    have HF := zH (HBf.out (by simp))
    have hr1 : PR.no j = r := hr0
    subst hr1
    clear hb hr0 hr HBf
    go_enter Tryd.func78, Tryd.ntmps78
    go_wp2_with (first
      | (refine HF.out.mono ?_; rintro e w1 ⟨rfl, h1⟩; have M1 := zH h1; clear h1))
    exact ⟨rfl, rfl, M1.out⟩
  | ok t j =>
    rw [hb] at hr0 HBf
    have HF := zH (HBf.out (by simp))
    have hr1 : pR l f n t j = r := hr0
    have HR := zH hr1
    have HNE := zH hr
    clear hb hr0 hr HBf hr1
    go_enter Tryd.func78, Tryd.ntmps78
    go_wp2_with (first
      | (refine HF.out.mono ?_; rintro e w1 ⟨⟨g1, rfl, h1⟩, h2, h3⟩; have T1 := zH h1; have M1 := zH h2; have P1 := zH h3; clear h1 h2 h3))
    go_loopg [8, 9, 10, 11] f (fun gk _ v _ _ wr => ∃ (t : Tr) (j g : Nat), gk ≤ f ∧ v = .pointer (some ⟨g, 0, none⟩) ∧ Hid (pR l gk n t j = r) ∧ Hid (TreeAt wr W.heap.size t g) ∧ Hid (Mv q W wr) ∧ Hid (PSt q a c sz l j wr))
    case atStart => exact ⟨t, j, g1, Nat.le_refl _, rfl, HR, T1, M1, P1⟩
    case round =>
      clear T1 M1 P1 HF HR
      obtain ⟨t, j, g, hgk, rfl, hr, ht, hm, hp⟩ := hrel
      have HR := hr
      have HT := ht
      have HM := hm
      have HP := hp
      clear hr ht hm hp
      cases gk with
      | zero =>
        exfalso
        have := HR.out
        rw [pR] at this
        exact HNE.out this.symm
      | succ f1 =>
      have hr := HR.out
      rw [pR, signK_find] at hr
      obtain ⟨R, hR⟩ : ∃ R, signsL.find? (signP l n j) = R := ⟨_, rfl⟩
      have HS := zH (p_sign0 n HP.out R hR)
      rw [hR] at hr
      cases R with
      | none =>
        rw [if_pos rfl] at hr
        subst hr
        clear hR
        go_wp2_with (first
          | (go_at_call 92; (with_reducible refine HS.out.mono ?_); rintro e w2 ⟨rfl, h2, h3⟩; have M2 := zH h2; have P2 := zH h3; clear h2 h3))
        go_ret
        have ha := (Below.refl w2.heap.size w2).alloc zL (.cells #[.string ByteArray.empty, .int .i64 0, .int .i64 0] 137)
        exact ⟨⟨g, rfl, (HT.out.high (High.of_mv M2.out QL.out)).high (High.of_below ha zL _)⟩, (HM.out.trans M2.out).trans (Mv.of_below ha (Nat.le_trans (Nat.le_of_lt QL.out) (Nat.le_trans HM.out.low.size M2.out.low.size))), P2.out.keep ha⟩
      | some x =>
        obtain ⟨xt, xk, xl⟩ := x
        have hk0 : xk ≠ 0 := by
          have : ∀ m ∈ signsL, m.2.1 ≠ 0 := by decide
          exact this _ (List.mem_of_find?_eq_some hR)
        dsimp only at hr
        rw [if_neg hk0] at hr
        clear hR hk0
        cases hb : pL l f1 (n + 1) (j + 1) with
        | out => rw [hb] at hr; exact absurd hr.symm HNE.out
        | no j2 =>
          rw [hb] at hr
          have hr1 : PR.no j2 = r := hr
          subst hr1
          have HB2 := zH (fun X (hX : PSt q a c sz l (j + 1) X) => (show Calls Tryd.prog fB #[.pointer (some ⟨q, 0, none⟩)] X (Reads q a c sz l X (.no j2)) by have := HBs.out f1 (by omega) (j + 1) X hX (by simp [hb]); rwa [hb] at this))
          clear hb hr
          go_wp2_with (first
            | (go_at_call 92; (with_reducible refine HS.out.mono ?_); rintro e w2 ⟨rfl, h2, h3⟩; have M2 := zH h2; have P2 := zH h3; clear h2 h3))
          have kb := Blk.new w2 137 #[.string (txt xt), .int .i64 (xk : Int), .int .i64 (xl : Int)]
          have ba := (Below.refl w2.heap.size w2).alloc zL (.cells #[.string (txt xt), .int .i64 (xk : Int), .int .i64 (xl : Int)] 137)
          have lq2 : q < w2.heap.size := P2.out.box.lt
          generalize hwb : World.alloc w2 _ = wb
          rw [hwb] at kb ba
          clear hwb
          obtain ⟨bs, hbs⟩ : ∃ z, w2.heap.size = z := ⟨_, rfl⟩
          have MB : Hid (Mv q W wb) := zH ((HM.out.trans M2.out).trans (Mv.of_below ba (Nat.le_of_lt lq2)))
          have PB := zH (P2.out.keep ba)
          have TB : Hid (TreeAt wb W.heap.size t g) := zH ((HT.out.high (High.of_mv M2.out QL.out)).high (High.of_below ba zL _))
          rw [hbs] at kb lq2 ⊢
          have KB : wb.cell? ⟨bs, 1, none⟩ = some (.int .i64 (xk : Int)) := kb.cell rfl
          have lbs := kb.lt
          clear kb ba hbs
          refine wp_region_held_drew (S := fun w' => w'.cell? ⟨bs, 1, none⟩ = some (.int .i64 (xk : Int))) (by kernel_rfl) KB (fun hHeld => ?_)
          refine wpAnyH_take (i := 0) (v := ?_) rfl (by kernel_rfl) (by kernel_rfl) (by kernel_rfl) (fun _ _ _ h => h) (Or.inl ⟨by rfl, ?_⟩) (by assumption) ?_
          rotate_left
          · intro w hSw; (try dsimp only at hSw); go_simp; with_reducible rfl
          try simp only [Act.put, List.setIfInBounds_toArray, List.set_cons_zero, List.set_cons_succ]
          refine wpAnyH_take (i := 1) (v := ?_) rfl (by kernel_rfl) (by kernel_rfl) (by kernel_rfl) (fun _ _ _ h => h) (Or.inl ⟨by rfl, ?_⟩) (by assumption) ?_
          rotate_left
          · intro w hSw; (try dsimp only at hSw); go_simp; with_reducible rfl
          try simp only [Act.put, List.setIfInBounds_toArray, List.set_cons_zero, List.set_cons_succ]
          refine wpAnyH_take (i := 2) (v := ?_) rfl (by kernel_rfl) (by kernel_rfl) (by kernel_rfl) (fun _ _ _ h => h) (Or.inl ⟨by rfl, ?_⟩) (by assumption) ?_
          rotate_left
          · intro w hSw; (try dsimp only at hSw); go_simp; with_reducible rfl
          try simp only [Act.put, List.setIfInBounds_toArray, List.set_cons_zero, List.set_cons_succ]
          refine wpAnyH_take (i := 3) (v := ?_) rfl (by kernel_rfl) (by kernel_rfl) (by kernel_rfl) (fun _ _ _ h => h) (Or.inl ⟨by rfl, ?_⟩) (by assumption) ?_
          rotate_left
          · intro w hSw; (try dsimp only at hSw); go_simp; with_reducible rfl
          try simp only [Act.put, List.setIfInBounds_toArray, List.set_cons_zero, List.set_cons_succ]
          refine wpAnyH_ready (rs := [4]) (by kernel_rfl) (by simp) ?_
          refine AllReadyH.cons rfl (fun K hK => ?_) AllReadyH.nil
          go_simp
          go_wp2_with (first
            | (refine (HB2.out _ (PB.out.quiet ⟨1, rfl⟩)).mono ?_; rintro e w3 ⟨rfl, h1⟩; have M3 : Hid (Mv q W w3) := zH (MB.out.trans ((Mv.quiet ⟨1, rfl⟩).trans h1)); clear h1))
          exact ⟨rfl, rfl, M3.out⟩
        | ok t2 j2 =>
          have HB2 := zH (fun X (hX : PSt q a c sz l (j + 1) X) => (show Calls Tryd.prog fB #[.pointer (some ⟨q, 0, none⟩)] X (Reads q a c sz l X (.ok t2 j2)) by have := HBs.out f1 (by omega) (j + 1) X hX (by simp [hb]); rwa [hb] at this))
          have HR2 := zH hr
          have Hb := zH hb
          clear hb hr
          go_wp2_with (first
            | (go_at_call 92; (with_reducible refine HS.out.mono ?_); rintro e w2 ⟨rfl, h2, h3⟩; have M2 := zH h2; have P2 := zH h3; clear h2 h3))
          have kb := Blk.new w2 137 #[.string (txt xt), .int .i64 (xk : Int), .int .i64 (xl : Int)]
          have ba := (Below.refl w2.heap.size w2).alloc zL (.cells #[.string (txt xt), .int .i64 (xk : Int), .int .i64 (xl : Int)] 137)
          have lq2 : q < w2.heap.size := P2.out.box.lt
          generalize hwb : World.alloc w2 _ = wb
          rw [hwb] at kb ba
          clear hwb
          obtain ⟨bs, hbs⟩ : ∃ z, w2.heap.size = z := ⟨_, rfl⟩
          have MB : Hid (Mv q W wb) := zH ((HM.out.trans M2.out).trans (Mv.of_below ba (Nat.le_of_lt lq2)))
          have PB := zH (P2.out.keep ba)
          have TB : Hid (TreeAt wb W.heap.size t g) := zH ((HT.out.high (High.of_mv M2.out QL.out)).high (High.of_below ba zL _))
          rw [hbs] at kb lq2 ⊢
          have KB : wb.cell? ⟨bs, 1, none⟩ = some (.int .i64 (xk : Int)) := kb.cell rfl
          have lbs := kb.lt
          clear kb ba hbs
          go_region_held3 (fun w' => w'.cell? ⟨bs, 1, none⟩ = some (.int .i64 (xk : Int)))
            (first | exact KB | exact K3 | go_keep | fail)
            (first
              | (refine (HB2.out _ (PB.out.quiet ⟨1, rfl⟩)).mono ?_; rintro e w3 ⟨⟨g2, rfl, h1⟩, h2, h3⟩; have K3 : w3.cell? ⟨bs, 1, none⟩ = some (.int .i64 (xk : Int)) := h2.cell lq2 KB; have T3 := zH h1; have M3 := zH h2; have P3 := zH h3; clear h1 h2 h3)
              | (go_at_call 93; refine (p_of xk [] _ _ _ _).mono ?_; rintro e w4 ⟨rfl, rfl⟩))
          have e1 : (wb.drewN 1).heap.size = wb.heap.size := rfl
          have MW : Mv q W w3 := MB.out.trans ((Mv.quiet ⟨1, rfl⟩).trans M3.out)
          have lW : W.heap.size ≤ (wb.drewN 1).heap.size := by rw [e1]; exact MB.out.low.size
          have N2 := zH (node2 (k := xk) (lo := W.heap.size) MW.low.size ((TB.out.high (High.of_mv (Mv.quiet (W' := wb.drewN 1) ⟨1, rfl⟩) QL.out)).high (High.of_mv M3.out QL.out)) (T3.out.mono lW))
          have bN := ((Below.refl w3.heap.size w3).alloc zL (.cells #[.pointer (some ⟨g, 0, none⟩), .pointer (some ⟨g2, 0, none⟩)] 103)).alloc (by simp) (.cells #[.int .i64 (xk : Int), .string (txt []), .int .i64 0, .slice none 0 0, .slice (some ⟨w3.heap.size, 0, none⟩) 2 2] 126)
          have MN := zH (MW.trans (Mv.of_below bN (Nat.le_of_lt P3.out.box.lt)))
          have PN := zH (P3.out.keep bN)
          clear MW bN e1 lW KB K3
          have hr := HR2.out
          rw [Hb.out] at hr
          have hr1 : (if n = 4 then PR.ok (.node xk [] 0 [t, t2]) j2 else pR l f1 n (.node xk [] 0 [t, t2]) j2) = r := hr
          clear hr
          by_cases hn4 : n = 4
          · rw [if_pos hn4] at hr1
            subst hr1
            have ho := HO.out
            rw [decide_eq_true hn4] at ho
            subst ho
            clear hn4
            go_wp2_with fail
            go_ret
            exact ⟨⟨_, rfl, N2.out⟩, MN.out, PN.out⟩
          · rw [if_neg hn4] at hr1
            have HR3 := zH hr1
            have ho := HO.out
            rw [decide_eq_false hn4] at ho
            subst ho
            clear hn4 hr1
            go_wp2_with fail
            go_roundg f1
            case measure => omega
            case rel => exact ⟨_, _, _, by omega, rfl, HR3, N2, MN, PN⟩
end
end Go.Proofs.YtpkggobhhieeoaaDoor
namespace Go.Proofs.YtpkggobhhieeoaaDoor
open Go.RowKit
section
variable {q : Nat} {a : Option Addr} {c sz : Nat} {l : List Tok} {i : Nat} {W : World}
theorem node1 {w : World} {lo k g1 : Nat} {s : List Nat} {t1 : Tr} (hlo : lo ≤ w.heap.size) (h1 : TreeAt w lo t1 g1) :
    TreeAt ((w.alloc (.cells #[.pointer (some ⟨g1, 0, none⟩)] 103)).alloc (.cells #[.int .i64 (k : Int), .string (txt s), .int .i64 0, .slice none 0 0, .slice (some ⟨w.heap.size, 0, none⟩) 1 1] 126)) lo (.node k s 0 [t1]) (w.heap.size + 1) := by
  have hb : Below w.heap.size w ((w.alloc (.cells #[.pointer (some ⟨g1, 0, none⟩)] 103)).alloc (.cells #[.int .i64 (k : Int), .string (txt s), .int .i64 0, .slice none 0 0, .slice (some ⟨w.heap.size, 0, none⟩) 1 1] 126)) :=
    (zB.alloc zL _).alloc (by simp) _
  have hi := High.of_below hb zL lo
  simp only [TreeAt, TreeIn, TreesIn]
  refine ⟨by omega, _, [g1], Blk.new_ (by simp) _ _, ⟨[.pointer (some ⟨g1, 0, none⟩)], ⟨rfl, .inr ⟨w.heap.size, 1, _, rfl, Nat.zero_le _, (Blk.new w 103 #[.pointer (some ⟨g1, 0, none⟩)]).alloc _, Nat.le_refl _, by unfold maxLen; simp, by simp, by simp⟩⟩, rfl, fun j y hy => ?_⟩, (fun b hb => by simp [Value.ownBlock] at hb; omega), g1, [], rfl, h1.high hi, rfl⟩
  rcases j with _ | j
  · injection hy with hy; subst hy; rfl
  · simp at hy
theorem node0 {w : World} {lo k g : Nat} {s : List Nat} {n : Int} (hlo : lo ≤ g) (h : Blk w g 126 #[.int .i64 (k : Int), .string (txt s), .int .i64 n, .slice none 0 0, .slice none 0 0]) : TreeAt w lo (.node k s n []) g := by
  simp only [TreeAt, TreeIn, TreesIn]
  exact ⟨hlo, _, [], h, ⟨[], ⟨rfl, .inl ⟨rfl, rfl⟩⟩, FlatR.nil_⟩, (fun b hb => by cases hb), rfl⟩
theorem Reads.back {W1 : World} {r : PR} {e : Ending} {w' : World} (hm : Mv q W W1) (h : Reads q a c sz l W1 r e w') : Reads q a c sz l W r e w' := by
  cases r with
  | ok t j => exact ⟨⟨h.1.choose, h.1.choose_spec.1, h.1.choose_spec.2.mono hm.low.size⟩, hm.trans h.2.1, h.2.2⟩
  | no j => exact ⟨h.1, hm.trans h.2⟩
  | out => exact h
theorem Reads.get {t : Tr} {j : Nat} {e : Ending} {w' : World} (h : Reads q a c sz l W (.ok t j) e w') : ∃ g, e = .returned (.pointer (some ⟨g, 0, none⟩)) ∧ TreeAt w' W.heap.size t g ∧ Mv q W w' ∧ PSt q a c sz l j w' :=
  ⟨h.1.choose, h.1.choose_spec.1, h.1.choose_spec.2, h.2.1, h.2.2⟩
theorem Reads.mk_ {t : Tr} {j g : Nat} {w' : World} (h1 : TreeAt w' W.heap.size t g) (h2 : Mv q W w') (h3 : PSt q a c sz l j w') : Reads q a c sz l W (.ok t j) (.returned (.pointer (some ⟨g, 0, none⟩))) w' := ⟨⟨g, rfl, h1⟩, h2, h3⟩
theorem below2a (w : World) (o o' : Obj) : Below w.heap.size w ((w.alloc o).alloc o') := (zB.alloc zL o).alloc (by simp) o'
theorem Reads.node1 {w : World} {t : Tr} {j g1 k : Nat} {s : List Nat} (h1 : TreeAt w W.heap.size t g1) (h2 : Mv q W w) (h3 : PSt q a c sz l j w) :
    Reads q a c sz l W (.ok (.node k s 0 [t]) j) (.returned (.pointer (some ⟨w.heap.size + 1, 0, none⟩))) ((w.alloc (.cells #[.pointer (some ⟨g1, 0, none⟩)] 103)).alloc (.cells #[.int .i64 (k : Int), .string (txt s), .int .i64 0, .slice none 0 0, .slice (some ⟨w.heap.size, 0, none⟩) 1 1] 126)) :=
  Reads.mk_ (Go.Proofs.YtpkggobhhieeoaaDoor.node1 h2.low.size h1) (h2.trans (Mv.of_below (below2a w _ _) (Nat.le_of_lt h3.box.lt))) (h3.keep (below2a w _ _))
theorem p_not (f : Nat) (HN : LevelC q a c sz l 94 (fun i => pL l f 3 i)) (HC : LevelC q a c sz l 104 (fun i => pL l f 4 i)) : LevelC q a c sz l 94 (fun i => pL l (f + 1) 3 i) := by
  intro i W h hr
  have hr0 : pL l (f + 1) 3 i = if isT l i notT then (pL l f 3 (i + 1)).bind fun k j => .ok (.node 29 [] 0 [k]) j else pL l f 4 i := by rw [pL]; rfl
  simp only at hr ⊢
  rw [hr0] at hr ⊢
  clear hr0
  obtain ⟨f0, f1, f2, f3, f4⟩ := h.facts
  have hle := h.le
  have hfew := h.few
  have i5 : (i : Int) ≤ 5000 := by omega
  have i0 : (0 : Int) ≤ (i : Int) := Int.natCast_nonneg _
  have H := zH h
  have QL := zH h.box.lt
  obtain ⟨b, hb⟩ : ∃ b, isT l i notT = b := ⟨_, rfl⟩
  have HX := zH (p_next notT (show ∀ n ∈ notT, n < 256 by decide) b hb h)
  have hnx : (txt notT) = ⟨#[110, 111, 116]⟩ := by decide
  rw [hnx] at HX
  cases b with
  | false =>
    rw [hb, if_neg (by simp)] at hr ⊢
    obtain ⟨r, hrr⟩ : ∃ r, pL l f 4 i = r := ⟨_, rfl⟩
    have HC1 : Hid (∀ n, Calls Tryd.prog 104 #[.pointer (some ⟨q, 0, none⟩)] (W.drewN n) (Reads q a c sz l (W.drewN n) r)) := zH (fun n => by rw [← hrr]; exact HC i (W.drewN n) (h.quiet ⟨n, rfl⟩) hr)
    rw [hrr] at hr ⊢
    clear HN HC h hb hle hfew hrr hnx
    cases r with
    | out => exact absurd rfl hr
    | no j =>
      clear hr
      go_enter Tryd.func94, Tryd.ntmps94
      go_wp2_with (first
        | (go_at_call 103; (with_reducible refine HX.out.mono ?_); rintro e w1 ⟨rfl, nq, rfl⟩)
        | (go_at_call 104; refine (HC1.out _).mono ?_; rintro e w2 ⟨rfl, h2⟩; have M2 := zH h2; clear h2))
      exact ⟨rfl, rfl, (Mv.quiet ⟨_, rfl⟩).trans M2.out⟩
    | ok t j =>
      clear hr
      go_enter Tryd.func94, Tryd.ntmps94
      go_wp2_with (first
        | (go_at_call 103; (with_reducible refine HX.out.mono ?_); rintro e w1 ⟨rfl, nq, rfl⟩)
        | (go_at_call 104; refine (HC1.out _).mono ?_; rintro e w2 h2; obtain ⟨g, rfl, h3, h4, h5⟩ := h2.get; have M2 := zH (And.intro h3 (And.intro h4 h5)); clear h2 h3 h4 h5))
      go_ret
      exact (Reads.mk_ M2.out.1 M2.out.2.1 M2.out.2.2).back (Mv.quiet ⟨_, rfl⟩)
  | true =>
    rw [hb, if_pos rfl] at hr ⊢
    obtain ⟨r, hrr⟩ : ∃ r, pL l f 3 (i + 1) = r := ⟨_, rfl⟩
    have hlt := isT_lt hb
    have ST := zH (fun n => h.step (j := i + 1) (u := .int .i64 ((i : Int) + 1)) (by go_num) hlt n)
    have hne : r ≠ .out := fun e => hr (by rw [hrr, e]; rfl)
    have HC1 : Hid (∀ n, Calls Tryd.prog 94 #[.pointer (some ⟨q, 0, none⟩)] ((W.drewN n).setCell ⟨q, 1, none⟩ (.int .i64 ((i : Int) + 1))) (Reads q a c sz l ((W.drewN n).setCell ⟨q, 1, none⟩ (.int .i64 ((i : Int) + 1))) r)) := zH (fun n => by have hq := (ST.out n).2; rw [← hrr]; exact HN (i + 1) _ hq (by show pL l f 3 (i + 1) ≠ .out; rw [hrr]; exact hne))
    rw [hrr]
    clear HN HC h hb hle hfew hrr hr hlt hnx
    cases r with
    | out => exact absurd rfl hne
    | no j =>
      clear hne
      go_enter Tryd.func94, Tryd.ntmps94
      go_wp2_with (first
        | (go_at_call 103; (with_reducible refine HX.out.mono ?_); rintro e w1 ⟨rfl, nq, rfl⟩)
        | (go_at_call 94; refine (HC1.out _).mono ?_; rintro e w2 ⟨rfl, h2⟩; have M2 := zH h2; clear h2))
      exact ⟨rfl, rfl, (ST.out _).1.trans M2.out⟩
    | ok t j =>
      clear hne
      go_enter Tryd.func94, Tryd.ntmps94
      go_wp2_with (first
        | (go_at_call 103; (with_reducible refine HX.out.mono ?_); rintro e w1 ⟨rfl, nq, rfl⟩)
        | (go_at_call 94; refine (HC1.out _).mono ?_; rintro e w2 h2; obtain ⟨g, rfl, h3, h4, h5⟩ := h2.get; have M2 := zH (And.intro h3 (And.intro h4 h5)); clear h2 h3 h4 h5)
        | (go_at_call 93; refine (p_of 29 [] _ _ _ _).mono ?_; rintro e w4 ⟨rfl, rfl⟩))
      go_ret
      exact Reads.back (ST.out _).1 (Reads.node1 M2.out.1 M2.out.2.1 M2.out.2.2)
theorem p_post (f : Nat) (HP : LevelC q a c sz l 110 (fun i => pP l f i)) : LevelC q a c sz l 109 (fun i => pL l (f + 1) 7 i) := by
  intro i W h hr
  have hr0 : pL l (f + 1) 7 i = (pP l f i).bind fun t j => pQ l f t j := by rw [pL]; rfl
  simp only at hr ⊢
  rw [hr0] at hr ⊢
  obtain ⟨r, hr1⟩ : ∃ r, ((pP l f i).bind fun t j => pQ l f t j) = r := ⟨_, rfl⟩
  rw [hr1] at hr ⊢
  have H := zH h
  have QL := zH h.box.lt
  clear hr0
  cases hb : pP l f i with
  | out => rw [hb] at hr1; exact absurd hr1.symm hr
  | no j =>
    rw [hb] at hr1
    have HF : Hid (Calls Tryd.prog 110 #[.pointer (some ⟨q, 0, none⟩)] W (Reads q a c sz l W (.no j))) := zH (by rw [← hb]; exact HP i W h (by simp [hb]))
    have hr2 : PR.no j = r := hr1
    subst hr2
    clear HP h hr1 hb hr
    go_enter Tryd.func109, Tryd.ntmps109
    go_wp2_with (first
      | (go_at_call 110; refine HF.out.mono ?_; rintro e w1 ⟨rfl, h1⟩; have M1 := zH h1; clear h1))
    exact ⟨rfl, rfl, M1.out⟩
  | ok t j =>
    rw [hb] at hr1
    have HF : Hid (Calls Tryd.prog 110 #[.pointer (some ⟨q, 0, none⟩)] W (Reads q a c sz l W (.ok t j))) := zH (by rw [← hb]; exact HP i W h (by simp [hb]))
    have hr2 : pQ l f t j = r := hr1
    have HR := zH hr2
    have HNE := zH hr
    clear HP h hr1 hb hr hr2
    go_enter Tryd.func109, Tryd.ntmps109
    go_wp2_with (first
      | (go_at_call 110; refine HF.out.mono ?_; rintro e w1 h2; obtain ⟨g1, rfl, h3, h4, h5⟩ := h2.get; have T1 := zH h3; have M1 := zH h4; have P1 := zH h5; clear h2 h3 h4 h5))
    go_loopg [2, 3, 4, 5, 6] f (fun gk _ v _ _ _ wr => ∃ (t : Tr) (j g : Nat), v = .pointer (some ⟨g, 0, none⟩) ∧ Hid (pQ l gk t j = r) ∧ Hid (TreeAt wr W.heap.size t g) ∧ Hid (Mv q W wr) ∧ Hid (PSt q a c sz l j wr))
    case atStart => exact ⟨t, j, g1, rfl, HR, T1, M1, P1⟩
    case round =>
      clear T1 M1 P1 HF HR
      obtain ⟨t, j, g, rfl, hr, ht, hm, hp⟩ := hrel
      have HR := hr
      have HT := ht
      have HM := hm
      have HP := hp
      clear hr ht hm hp
      cases gk with
      | zero =>
        exfalso
        have := HR.out
        rw [pQ] at this
        exact HNE.out this.symm
      | succ f1 =>
      have hr := HR.out
      rw [pQ, signK_find] at hr
      obtain ⟨R, hR⟩ : ∃ R, signsL.find? (signP l 7 j) = R := ⟨_, rfl⟩
      have HS : Hid (Calls Tryd.prog 92 #[.pointer (some ⟨q, 0, none⟩), .int .i64 7] wr fun e w' => SignIs q a c sz l j wr R e w') := zH (p_sign0 7 HP.out R hR)
      rw [hR] at hr
      cases R with
      | none =>
        rw [if_pos rfl] at hr
        subst hr
        clear hR
        go_wp2_with (first
          | (go_at_call 92; (with_reducible refine HS.out.mono ?_); rintro e w2 ⟨rfl, h2, h3⟩; have M2 := zH h2; have P2 := zH h3; clear h2 h3))
        go_ret
        have ha := (Below.refl w2.heap.size w2).alloc zL (.cells #[.string ByteArray.empty, .int .i64 0, .int .i64 0] 137)
        exact ⟨⟨g, rfl, (HT.out.high (High.of_mv M2.out QL.out)).high (High.of_below ha zL _)⟩, (HM.out.trans M2.out).trans (Mv.of_below ha (Nat.le_trans (Nat.le_of_lt QL.out) (Nat.le_trans HM.out.low.size M2.out.low.size))), P2.out.keep ha⟩
      | some x =>
        obtain ⟨xt, xk, xl⟩ := x
        have hk0 : xk ≠ 0 := by
          have : ∀ m ∈ signsL, m.2.1 ≠ 0 := by decide
          exact this _ (List.mem_of_find?_eq_some hR)
        dsimp only at hr
        rw [if_neg hk0] at hr
        clear hR hk0
        by_cases hk11 : xk = 11
        · subst hk11
          rw [if_pos rfl] at hr
          have HR2 := zH hr
          clear hr
          go_wp2_with (first
            | (go_at_call 92; (with_reducible refine HS.out.mono ?_); rintro e w2 ⟨rfl, h2, h3⟩; have M2 := zH h2; have P2 := zH h3; clear h2 h3)
            | (go_at_call 93; refine (p_of 11 [] _ _ _ _).mono ?_; rintro e w4 ⟨rfl, rfl⟩))
          have ba := (Below.refl w2.heap.size w2).alloc zL (.cells #[.string (txt xt), .int .i64 11, .int .i64 (xl : Int)] 137)
          have TB := (HT.out.high (High.of_mv M2.out QL.out)).high (High.of_below ba zL _)
          have MB := (HM.out.trans M2.out).trans (Mv.of_below (q := q) ba (Nat.le_of_lt P2.out.box.lt))
          have PB := P2.out.keep ba
          have N2 := zH (Go.Proofs.YtpkggobhhieeoaaDoor.node1 (k := 11) (s := []) (lo := W.heap.size) (w := w2.alloc (.cells #[.string (txt xt), .int .i64 11, .int .i64 (xl : Int)] 137)) MB.low.size TB)
          have MN := zH (MB.trans (Mv.of_below (q := q) (below2a (w2.alloc (.cells #[.string (txt xt), .int .i64 11, .int .i64 (xl : Int)] 137)) (.cells #[.pointer (some ⟨g, 0, none⟩)] 103) (.cells #[.int .i64 ((11 : Nat) : Int), .string (txt []), .int .i64 0, .slice none 0 0, .slice (some ⟨(w2.alloc (.cells #[.string (txt xt), .int .i64 11, .int .i64 (xl : Int)] 137)).heap.size, 0, none⟩) 1 1] 126)) (Nat.le_of_lt PB.box.lt)))
          have PN := zH (PB.keep (below2a (w2.alloc (.cells #[.string (txt xt), .int .i64 11, .int .i64 (xl : Int)] 137)) (.cells #[.pointer (some ⟨g, 0, none⟩)] 103) (.cells #[.int .i64 ((11 : Nat) : Int), .string (txt []), .int .i64 0, .slice none 0 0, .slice (some ⟨(w2.alloc (.cells #[.string (txt xt), .int .i64 11, .int .i64 (xl : Int)] 137)).heap.size, 0, none⟩) 1 1] 126)))
          go_roundg f1
          case measure => omega
          case rel => exact ⟨_, _, _, rfl, HR2, zH (by have := N2.out; simp only [World.size_alloc] at this; exact this), zH (by have := MN.out; simp only [World.size_alloc] at this; exact this), zH (by have := PN.out; simp only [World.size_alloc] at this; exact this)⟩
        · rw [if_neg hk11] at hr
          have d1 : (((xk : Int)) != 11) = true := by simp; omega
          unfold nameAt at hr
          by_cases hnm : ∃ tk, l[j + 1]? = some tk ∧ tk.kind = 3
          · obtain ⟨tk, htk, hkd⟩ := hnm
            rw [htk] at hr
            simp only at hr
            rw [if_pos hkd] at hr
            have HR2 := zH hr
            have HN := zH (fun X (hX : PSt q a c sz l (j + 1) X) => p_name_yes htk hkd hX)
            clear hr htk hkd hk11
            go_wp2_with (first
              | (go_at_call 92; (with_reducible refine HS.out.mono ?_); rintro e w2 ⟨rfl, h2, h3⟩; have M2 := zH h2; have P2 := zH h3; clear h2 h3)
              | (go_at_call 111; refine (HN.out _ (P2.out.keep ((Below.refl w2.heap.size w2).alloc zL (.cells #[.string (txt xt), .int .i64 (xk : Int), .int .i64 (xl : Int)] 137)))).mono ?_; rintro e w3 ⟨rfl, h2, h3⟩; have K3 : w3.cell? ⟨w2.heap.size, 1, none⟩ = some (.int .i64 (xk : Int)) := h2.cell P2.out.box.lt ((Blk.new w2 137 #[.string (txt xt), .int .i64 (xk : Int), .int .i64 (xl : Int)]).cell rfl); have M3 := zH h2; have P3 := zH h3; clear h2 h3)
              | (go_at_call 93; refine (p_of xk tk.text _ _ _ _).mono ?_; rintro e w4 ⟨rfl, rfl⟩))
            have ba := (Below.refl w2.heap.size w2).alloc zL (.cells #[.string (txt xt), .int .i64 (xk : Int), .int .i64 (xl : Int)] 137)
            have TB := ((HT.out.high (High.of_mv M2.out QL.out)).high (High.of_below ba zL _)).high (High.of_mv M3.out QL.out)
            have MB := ((HM.out.trans M2.out).trans (Mv.of_below (q := q) ba (Nat.le_of_lt P2.out.box.lt))).trans M3.out
            have PB := P3.out
            have N2 := zH (Go.Proofs.YtpkggobhhieeoaaDoor.node1 (k := xk) (s := tk.text) (lo := W.heap.size) (w := w3) MB.low.size TB)
            have MN := zH (MB.trans (Mv.of_below (q := q) (below2a (w3) (.cells #[.pointer (some ⟨g, 0, none⟩)] 103) (.cells #[.int .i64 ((xk : Nat) : Int), .string (txt tk.text), .int .i64 0, .slice none 0 0, .slice (some ⟨(w3).heap.size, 0, none⟩) 1 1] 126)) (Nat.le_of_lt PB.box.lt)))
            have PN := zH (PB.keep (below2a (w3) (.cells #[.pointer (some ⟨g, 0, none⟩)] 103) (.cells #[.int .i64 ((xk : Nat) : Int), .string (txt tk.text), .int .i64 0, .slice none 0 0, .slice (some ⟨(w3).heap.size, 0, none⟩) 1 1] 126)))
            go_roundg f1
            case measure => omega
            case rel => exact ⟨_, _, _, rfl, HR2, N2, MN, PN⟩
          · have hno : r = .no (j + 1) := by
              rw [← hr]
              cases htk : l[j + 1]? with
              | none => rfl
              | some tk => exact if_neg fun e => hnm ⟨tk, htk, e⟩
            subst hno
            have HN := zH (fun X (hX : PSt q a c sz l (j + 1) X) => p_name_no (fun t ht e => hnm ⟨t, ht, e⟩) hX)
            clear hr hk11 hnm
            go_wp2_with (first
              | (go_at_call 92; (with_reducible refine HS.out.mono ?_); rintro e w2 ⟨rfl, h2, h3⟩; have M2 := zH h2; have P2 := zH h3; clear h2 h3)
              | (go_at_call 111; refine (HN.out _ (P2.out.keep ((Below.refl w2.heap.size w2).alloc zL (.cells #[.string (txt xt), .int .i64 (xk : Int), .int .i64 (xl : Int)] 137)))).mono ?_; rintro e w3 ⟨rfl, h2⟩; have M3 := zH h2; clear h2))
            have ba := (Below.refl w2.heap.size w2).alloc zL (.cells #[.string (txt xt), .int .i64 (xk : Int), .int .i64 (xl : Int)] 137)
            exact ⟨rfl, rfl, ((HM.out.trans M2.out).trans (Mv.of_below (q := q) ba (Nat.le_of_lt P2.out.box.lt))).trans (Mv.quiet M3.out)⟩
end
end Go.Proofs.YtpkggobhhieeoaaDoor
namespace Go.Proofs.YtpkggobhhieeoaaDoor
open Go.RowKit
theorem info_ptr : (Tryd.prog.info? 103).map (fun i => (i.zero, i.size, i.bytes)) = some (some (.pointer none), 1, 8) := by kernel_rfl
structure WS (q : Nat) (a : Option Addr) (c sz : Nat) (l : List Tok) (W : World) (g k : Nat) (s : List Nat) (ts : List Tr) (j : Nat) (X : World) (v : Value) : Prop where
  mv : Mv q W X
  st : PSt q a c sz l j X
  box : Blk X g 126 #[.int .i64 (k : Int), .string (txt s), .int .i64 0, .slice none 0 0, v]
  lo : W.heap.size ≤ g
  ql : q < W.heap.size
  row : ∃ gs, Own1 X (g + 1) 103 1 IsPtr v gs ∧ TreesIn X (fun b => g + 1 ≤ b ∧ v.ownBlock ≠ some b) ts gs
section
variable {q : Nat} {a : Option Addr} {c sz : Nat} {l : List Tok} {W : World} {g k : Nat} {s : List Nat} {ts : List Tr} {j : Nat} {X : World} {v : Value}
theorem WS.new {X0 : World} (hm : Mv q W X0) (hp : PSt q a c sz l j X0) (hq : q < W.heap.size) : WS q a c sz l W X0.heap.size k s [] j (X0.alloc (.cells #[.int .i64 (k : Int), .string (txt s), .int .i64 0, .slice none 0 0, .slice none 0 0] 126)) (.slice none 0 0) := by
  have hb := (Below.refl X0.heap.size X0).alloc zL (.cells #[.int .i64 (k : Int), .string (txt s), .int .i64 0, .slice none 0 0, .slice none 0 0] 126)
  exact ⟨hm.trans (Mv.of_below hb (Nat.le_of_lt hp.box.lt)), hp.keep hb, Blk.new _ _ _, hm.low.size, hq, [], ⟨[], ⟨rfl, .inl ⟨rfl, rfl⟩⟩, FlatR.nil_⟩, rfl⟩
theorem WS.call (h : WS q a c sz l W g k s ts j X v) {X' : World} {j' : Nat} (hm : Mv q X X') (hp : PSt q a c sz l j' X') : WS q a c sz l W g k s ts j' X' v := by
  obtain ⟨gs, h1, h2⟩ := h.row
  have hg : q < g := Nat.lt_of_lt_of_le h.ql h.lo
  refine ⟨h.mv.trans hm, hp, hm.blk h.box hg, h.lo, h.ql, gs, h1.stay (fun b hb hl => hm.high b ?_ hl), h2.stay (fun b hb hl => hm.high b (by omega) hl)⟩
  have := (h1.block b hb).1
  omega
theorem WS.quiet (h : WS q a c sz l W g k s ts j X v) {X' : World} (hq : Quiet X X') : WS q a c sz l W g k s ts j X' v := h.call (Mv.quiet hq) (h.st.quiet hq)
theorem WS.tree (h : WS q a c sz l W g k s ts j X v) : TreeAt X W.heap.size (.node k s 0 ts) g := by
  obtain ⟨gs, h1, h2⟩ := h.row
  have hlo := h.lo
  simp only [TreeAt, TreeIn]
  exact ⟨h.lo, v, gs, h.box, h1.mono (Nat.zero_le _), fun b hb => by have := (h1.block b hb).1; omega, h2.imp (fun b hb _ => by omega)⟩
theorem WS.reads (h : WS q a c sz l W g k s ts j X v) : Reads q a c sz l W (.ok (.node k s 0 ts) j) (.returned (.pointer (some ⟨g, 0, none⟩))) X := Reads.mk_ h.tree h.mv h.st
theorem WS.name (h : WS q a c sz l W g k s ts j X v) {s' : List Nat} {u : Value} (hu : u = .string (txt s')) : WS q a c sz l W g k s' ts j (X.setCell ⟨g, 1, none⟩ u) v := by
  subst hu
  obtain ⟨gs, h1, h2⟩ := h.row
  have hg : q < g := Nat.lt_of_lt_of_le h.ql h.lo
  have hst : ∀ b, g + 1 ≤ b → (X.setCell ⟨g, 1, none⟩ (.string (txt s'))).heap[b]? = X.heap[b]? := fun b hb => Below.heap_setCell X ⟨g, 1, none⟩ _ b (by show b ≠ g; omega)
  refine ⟨h.mv.setNew (p := ⟨g, 1, none⟩) _ (Nat.le_of_lt hg) h.lo, h.st.setFar (p := ⟨g, 1, none⟩) _ hg, by have := h.box.set_ 1 (.string (txt s')); simpa using this, h.lo, h.ql, gs, h1.stay (fun b hb _ => hst b (h1.block b hb).1), h2.stay (fun b hb _ => hst b hb.1)⟩
theorem WS.cells (h : WS q a c sz l W g k s ts j X v) : X.cell? ⟨g, 0, none⟩ = some (.int .i64 (k : Int)) ∧ X.cell? ⟨g, 1, none⟩ = some (.string (txt s)) ∧ X.cell? ⟨g, 4, none⟩ = some v ∧ X.frozen? ⟨g, 1, none⟩ = false ∧ X.frozen? ⟨g, 4, none⟩ = false ∧ g < X.heap.size :=
  ⟨h.box.cell rfl, h.box.cell rfl, h.box.cell rfl, h.box.frozen 1, h.box.frozen 4, h.box.lt⟩
theorem own_ptr {base : Nat} {gs : List Nat} (h : Own1 X base 103 1 IsPtr v gs) : X.ownsRow base 103 1 v gs.length (gs.map fun x => Value.pointer (some ⟨x, 0, none⟩)) := by
  obtain ⟨xs, h1, h2⟩ := h
  have : xs = gs.map fun x => Value.pointer (some ⟨x, 0, none⟩) := by
    apply List.ext_getElem?
    intro i
    have hl := h2.1
    rw [Nat.mul_one] at hl
    rcases Nat.lt_or_ge i gs.length with hi | hi
    · have := h2.2 i gs[i] (List.getElem?_eq_getElem hi)
      unfold IsPtr at this
      rw [Nat.mul_one] at this
      have e : ((xs.drop i).take 1)[0]? = xs[i]? := by rw [List.getElem?_take_of_lt (by omega), List.getElem?_drop, Nat.add_zero]
      rw [← e, this, List.getElem?_map, List.getElem?_eq_getElem hi]
      rfl
    · rw [List.getElem?_eq_none (by omega), List.getElem?_eq_none (by simp; omega)]
  rw [← this]
  exact h1
theorem TreesIn.len {S : Nat → Prop} : ∀ {ts : List Tr} {gs : List Nat}, TreesIn X S ts gs → gs.length = ts.length
  | [], gs, h => by simp only [TreesIn] at h; subst h; rfl
  | t :: ts, gs, h => by simp only [TreesIn] at h; obtain ⟨g', gs', rfl, _, h3⟩ := h; simp [TreesIn.len h3]
theorem news1 (w : World) (p : Value) (T : TypeId) : ∀ j u, [p][j]? = some u → (w.alloc (.cells #[p] T)).cell? ((⟨w.heap.size, 0, none⟩ : Addr).add j) = some u := by
  intro j u hu
  rcases j with _ | j
  · have hp : p = u := by simpa using hu
    subst hp
    exact (Blk.new w T #[p]).cell rfl
  · simp at hu
theorem WS.own4 (h : WS q a c sz l W g k s ts j X v) {gs : List Nat} (h1 : Own1 X (g + 1) 103 1 IsPtr v gs) {Xd w3 : World} (hd : Quiet X Xd) (hm : Mv q Xd w3) (o : Obj) (n : Nat) (hn : gs.length = n) : (w3.alloc o).ownsRow (g + 1) 103 1 v n (gs.map fun x => Value.pointer (some ⟨x, 0, none⟩)) := by
  subst hn
  have hg : q < g := Nat.lt_of_lt_of_le h.ql h.lo
  refine own_ptr (Own1.alloc (Own1.stay h1 (fun b hb hl => ?_)) o)
  have := (h1.block b hb).1
  obtain ⟨m, rfl⟩ := hd
  exact hm.high b (by omega) hl
theorem WS.box5 (h : WS q a c sz l W g k s ts j X v) {Xd w3 w5 : World} (hd : Quiet X Xd) (hm : Mv q Xd w3) (o : Obj) (hgrow : (w3.alloc o).grownBy w5 v.ownBlock) : Blk w5 g 126 #[.int .i64 (k : Int), .string (txt s), .int .i64 0, .slice none 0 0, v] := by
  obtain ⟨gs, h1, h2⟩ := h.row
  have hg : q < g := Nat.lt_of_lt_of_le h.ql h.lo
  have b3 := hm.blk (h.quiet hd).box hg
  refine (b3.alloc o).keep (hgrow.block g (by have := b3.lt; rw [World.size_alloc]; omega) (fun e => ?_))
  have := (h1.block g e.symm).1
  omega
theorem WS.push (h : WS q a c sz l W g k s ts j X v) {Xd w3 w5 : World} {t : Tr} {g1 j' b cap n : Nat} {xs : List Value} {u : Value} (hd : Quiet X Xd) (hm : Mv q Xd w3) (ht : TreeAt w3 X.heap.size t g1) (hp : PSt q a c sz l j' w3)
    {gs : List Nat} (h1 : Own1 X (g + 1) 103 1 IsPtr v gs) (h2 : TreesIn X (fun b => g + 1 ≤ b ∧ v.ownBlock ≠ some b) ts gs) (hl : gs.length = n) (hx : xs = gs.map fun x => Value.pointer (some ⟨x, 0, none⟩))
    (hown : w5.ownsRow (g + 1) 103 1 (.slice (some ⟨b, 0, none⟩) (n + 1) cap) (n + 1) (xs ++ [.pointer (some ⟨g1, 0, none⟩)]))
    (hgrow : (w3.alloc (.cells #[.pointer (some ⟨g1, 0, none⟩)] 103)).grownBy w5 v.ownBlock) (hat : v.ownBlock = some b ∨ b = w3.heap.size + 1) (hu : u = .slice (some ⟨b, 0, none⟩) (n + 1) cap) :
    WS q a c sz l W g k s (ts ++ [t]) j' (w5.setCell ⟨g, 4, none⟩ u) (.slice (some ⟨b, 0, none⟩) (n + 1) cap) := by
  subst hu
  have h' := h.quiet hd
  have hg : q < g := Nat.lt_of_lt_of_le h.ql h.lo
  have hgX := h.box.lt
  have hsz : Xd.heap.size = X.heap.size := by obtain ⟨m, rfl⟩ := hd; rfl
  have hvb : ∀ b', v.ownBlock = some b' → g + 1 ≤ b' ∧ b' < X.heap.size := fun b' hb' => h1.block b' hb'
  have hsz3 := hm.low.size
  have h4 : ∀ b', b' < w3.heap.size → (w3.alloc (.cells #[.pointer (some ⟨g1, 0, none⟩)] 103)).heap[b']? = w3.heap[b']? := fun b' hb' => Below.heap_alloc w3 _ b' hb'
  have h5 : ∀ b', b' < w3.heap.size → v.ownBlock ≠ some b' → w5.heap[b']? = w3.heap[b']? := fun b' hb' hne => (hgrow.block b' (by rw [World.size_alloc]; omega) (fun e => hne e.symm)).trans (h4 b' hb')
  have h6 : ∀ b', b' ≠ g → (w5.setCell ⟨g, 4, none⟩ (.slice (some ⟨b, 0, none⟩) (n + 1) cap)).heap[b']? = w5.heap[b']? := fun b' hb' => Below.heap_setCell w5 ⟨g, 4, none⟩ _ b' hb'
  have hsz5 : w3.heap.size + 1 ≤ w5.heap.size := by have := hgrow.size; rw [World.size_alloc] at this; exact this
  have hqv : v.ownBlock ≠ some q := fun e => by have := hvb q e; omega
  have hgv : v.ownBlock ≠ some g := fun e => by have := hvb g e; omega
  have hW3 : W.heap.size ≤ X.heap.size := h.mv.low.size
  have hb1 : ∀ b', X.heap.size ≤ b' → b' < w3.heap.size → b' ≠ b := fun b' k1 k2 e => by
    rcases hat with e2 | e2
    · have := hvb b e2; omega
    · omega
  -- the parser's state
  have st4 := hp.keep ((Below.refl w3.heap.size w3).alloc zL (.cells #[.pointer (some ⟨g1, 0, none⟩)] 103))
  have bl5 : Below g (w3.alloc (.cells #[.pointer (some ⟨g1, 0, none⟩)] 103)) w5 := zB.grown hgrow (by rw [World.size_alloc]; omega) (fun b' hb' => by have := hvb b' hb'; omega)
  have st5 : PSt q a c sz l j' w5 := st4.mv (bl5.mono (Nat.le_of_lt hg)) (st4.box.below bl5 hg) st4.le
  have mv3 : Mv q W w3 := h'.mv.trans hm
  have mv5 : Mv q W w5 := by
    refine ⟨(mv3.low.trans ((Below.refl w3.heap.size w3).alloc zL _ |>.mono (by have := hp.box.lt; omega))).trans (bl5.mono (Nat.le_of_lt hg)), fun b' k1 k2 => ?_⟩
    rw [h5 b' (by have := mv3.low.size; omega) (fun e => by have := hvb b' e; have := h.lo; omega)]
    exact mv3.high b' k1 k2
  have bx3 : Blk w3 g 126 #[.int .i64 (k : Int), .string (txt s), .int .i64 0, .slice none 0 0, v] := hm.blk h'.box hg
  have bx5 : Blk w5 g 126 #[.int .i64 (k : Int), .string (txt s), .int .i64 0, .slice none 0 0, v] := bx3.keep (h5 g (by omega) hgv)
  refine ⟨mv5.setNew (p := ⟨g, 4, none⟩) _ (Nat.le_of_lt hg) h.lo, st5.setFar (p := ⟨g, 4, none⟩) _ hg, by have := bx5.set_ 4 (.slice (some ⟨b, 0, none⟩) (n + 1) cap); simpa using this, h.lo, h.ql, gs ++ [g1], ?_, ?_⟩
  · refine Own1.stay (w := w5) ⟨_, by rw [List.length_append, hl]; exact hown, ?_⟩ (fun b' hb' _ => h6 b' ?_)
    · rw [hx]
      refine ⟨by simp, fun i y hy => ?_⟩
      have e : (gs.map fun x => Value.pointer (some ⟨x, 0, none⟩)) ++ [Value.pointer (some ⟨g1, 0, none⟩)] = (gs ++ [g1]).map fun x => Value.pointer (some ⟨x, 0, none⟩) := by simp
      rw [e, Nat.mul_one]
      unfold IsPtr
      have hlt := (List.getElem?_eq_some_iff.1 hy).1
      apply List.ext_getElem?
      intro m
      rw [List.getElem?_take]
      rcases m with _ | m
      · simp only [Nat.zero_lt_one, if_true, List.getElem?_drop, Nat.add_zero, List.getElem?_map, hy, Option.map_some]
        rfl
      · simp
    · have : b' = b := by simp [Value.ownBlock] at hb'; exact hb'.symm
      subst this
      rcases hat with e2 | e2
      · have := hvb b' e2; omega
      · omega
  · refine TreesIn.app ?_ ?_
    · have t3 : TreesIn (w5.setCell ⟨g, 4, none⟩ (.slice (some ⟨b, 0, none⟩) (n + 1) cap)) (fun b' => (g + 1 ≤ b' ∧ v.ownBlock ≠ some b') ∧ b' < X.heap.size) ts gs := by
        refine TreesIn.stay (w := X) (fun b' hb' hl => ?_) (h2.imp (fun b' hb' hl => ⟨hb', hl⟩))
        rw [h6 b' (by omega), h5 b' (by omega) hb'.1.2, hm.high b' (by omega) (by omega)]
        obtain ⟨m, rfl⟩ := hd
        rfl
      refine t3.imp (fun b' hb' _ => ⟨hb'.1.1, fun e => ?_⟩)
      have e' : b = b' := by simpa [Value.ownBlock] using e
      subst e'
      rcases hat with e2 | e2
      · exact hb'.1.2 e2
      · omega
    · have t3 : TreeIn (w5.setCell ⟨g, 4, none⟩ (.slice (some ⟨b, 0, none⟩) (n + 1) cap)) (fun b' => X.heap.size ≤ b' ∧ b' < w3.heap.size) t g1 := by
        refine TreeIn.stay (w := w3) (fun b' hb' hl => ?_) (TreeIn.imp (fun b' hb' hl => ⟨hb', hl⟩) ht)
        rw [h6 b' (by omega), h5 b' hl (fun e => by have := hvb b' e; omega)]
      refine t3.imp (fun b' hb' _ => ⟨by omega, fun e => ?_⟩)
      have e' : b = b' := by simpa [Value.ownBlock] using e
      subst e'
      exact hb1 b hb'.1 hb'.2 rfl
end
end Go.Proofs.YtpkggobhhieeoaaDoor
namespace Go.Proofs.YtpkggobhhieeoaaDoor
open Go.RowKit
theorem placesL_app : ∀ (A B : List Tr) (p : Nat), placesL (A ++ B) p = placesL A p ++ placesL B (p + sizeL A)
  | [], B, p => by simp [placesL, sizeL]
  | t :: A, B, p => by simp only [List.cons_append, placesL, sizeL, placesL_app A B]; rw [Nat.add_assoc]
theorem flatL_app : ∀ (A B : List Tr) (p : Nat), flatL (A ++ B) p = flatL A p ++ flatL B (p + sizeL A)
  | [], B, p => by simp [flatL, sizeL]
  | t :: A, B, p => by simp only [List.cons_append, flatL, sizeL, flatL_app A B, List.append_assoc]; rw [Nat.add_assoc]
theorem sizeL_app : ∀ (A B : List Tr), sizeL (A ++ B) = sizeL A + sizeL B
  | [], B => by simp [sizeL]
  | t :: A, B => by simp only [List.cons_append, sizeL, sizeL_app A B]; omega
theorem deepL_app : ∀ (A B : List Tr), deepL (A ++ B) = max (deepL A) (deepL B)
  | [], B => by simp [deepL]
  | t :: A, B => by simp only [List.cons_append, deepL, deepL_app A B]; omega
theorem placesL_len : ∀ (l : List Tr) (p : Nat), (placesL l p).length = l.length
  | [], _ => rfl
  | t :: l, p => by simp only [placesL, List.length_cons, placesL_len l]
theorem len_le_size : ∀ (l : List Tr), l.length ≤ sizeL l
  | [] => by simp
  | t :: l => by simp only [List.length_cons, sizeL]; have := len_le_size l; have := size_pos t; omega
theorem take_snoc1 {α : Type} {l : List α} {j : Nat} {x : α} (h : l[j]? = some x) : l.take (j + 1) = l.take j ++ [x] := by
  rw [List.take_add_one, h]; rfl
theorem sizeL_take_le : ∀ (l : List Tr) (j : Nat), sizeL (l.take j) ≤ sizeL l
  | [], _ => by simp [sizeL]
  | t :: l, 0 => by simp [sizeL]
  | t :: l, j + 1 => by simp only [List.take_succ_cons, sizeL]; have := sizeL_take_le l j; omega
theorem size_mem : ∀ {l : List Tr} {t : Tr}, t ∈ l → t.size ≤ sizeL l
  | u :: l, t, h => by
    simp only [sizeL]
    rcases List.mem_cons.1 h with rfl | h
    · omega
    · have := size_mem h; omega
def IsNat : List Value → Nat → Prop := fun x n => x = [.int .i64 (n : Int)]
def IsEN : List Value → EN × Value → Prop := fun x p => x = [.int .i64 (p.1.kind : Int), .string (txt p.1.text), .int .i64 p.1.num, p.2] ∧ ∃ a n c, p.2 = .slice a n c
structure EL (X : World) (B : Nat) (v : Value) (es : List (EN × Value)) : Prop where
  main : Own1 X B 116 4 IsEN v es
  kids : ∀ (i : Nat) (p : EN × Value), es[i]? = some p → Own1 X B 3 1 IsNat p.2 p.1.kids
  apart : ∀ (i j : Nat) (p p' : EN × Value) (b : Nat), i ≠ j → es[i]? = some p → es[j]? = some p' → p.2.ownBlock = some b → p'.2.ownBlock ≠ some b
theorem Own1.ne_block {α β : Type} {w : World} {b b' s s' : Nat} {e e' : TypeId} {R : List Value → α → Prop} {R' : List Value → β → Prop} {v v' : Value} {l : List α} {l' : List β} (h : Own1 w b e s R v l) (h' : Own1 w b' e' s' R' v' l') (hne : e ≠ e') : ∀ g, v.ownBlock = some g → v'.ownBlock ≠ some g := by
  intro g hg hg'
  obtain ⟨xs, h1, _⟩ := h
  obtain ⟨ys, k1, _⟩ := h'
  rcases h1.2 with ⟨rfl, _⟩ | ⟨g1, cap, cur, rfl, r2, r3, _⟩
  · cases hg
  · rcases k1.2 with ⟨rfl, _⟩ | ⟨g2, cap2, cur2, rfl, q2, q3, _⟩
    · cases hg'
    · have e1 : g1 = g := by simpa [Value.ownBlock] using hg
      have e2 : g2 = g := by simpa [Value.ownBlock] using hg'
      subst e1
      subst e2
      rw [r3] at q3
      injection q3 with q3
      injection q3 with _ q3
      exact hne q3
theorem Own1.at00 {α : Type} {w : World} {base size n c : Nat} {e : TypeId} {R : List Value → α → Prop} {l : List α} {a : Option Addr} (h : Own1 w base e size R (.slice a n c) l) (hn : 0 < l.length) (hs : 0 < size) : ∃ g, a = some ⟨g, 0, none⟩ ∧ base ≤ g ∧ g < w.heap.size ∧ (∀ o, w.frozen? ⟨g, o, none⟩ = false) ∧ ∀ (k : Nat) (y : α), l[k]? = some y → ∃ x : List Value, x.length = size ∧ R x y ∧ ∀ (j : Nat) (u : Value), x[j]? = some u → w.cell? ⟨g, k * size + j, none⟩ = some u := by
  have hr := h.read hs
  have hb := h.block
  have hf := h.form
  obtain ⟨xs, h1, h2⟩ := h
  obtain ⟨g, rfl⟩ : ∃ g, a = some ⟨g, 0, none⟩ := by
    rcases h1.2 with ⟨h', h0⟩ | ⟨g', cap', cur, h', _⟩
    · omega
    · injection h' with e1; exact ⟨g', e1⟩
  have hg := hb g rfl
  refine ⟨g, rfl, hg.1, hg.2, fun o => ?_, fun k y hy => ?_⟩
  · obtain ⟨a', c', he⟩ := hf
    injection he with _ e2 e3
    subst e2
    exact h1.frozenAt o
  · obtain ⟨b, off, x, he, _, hx, hR, hc⟩ := hr.at_ hy
    injection he with he
    injection he with e1 e2
    subst e1 e2
    refine ⟨x, hx, hR, fun j u hu => ?_⟩
    have := hc j u hu
    rwa [Nat.zero_add] at this
mutual
theorem deep_le : ∀ (t : Tr), t.deep ≤ t.size
  | .node _ _ _ ks => by simp only [Tr.deep, Tr.size]; have := deepL_le ks; omega
theorem deepL_le : ∀ (l : List Tr), deepL l ≤ sizeL l
  | [] => by simp [deepL]
  | t :: ts => by simp only [deepL, sizeL]; have := deep_le t; have := deepL_le ts; omega
end
theorem TreesIn.get {w : World} {S : Nat → Prop} : ∀ {ts : List Tr} {gs : List Nat} {j : Nat} {t : Tr} {g : Nat}, TreesIn w S ts gs → ts[j]? = some t → gs[j]? = some g → TreeIn w S t g
  | [], _, j, t, g, _, h1, _ => by simp at h1
  | u :: ts, gs, 0, t, g, h, h1, h2 => by
    simp only [TreesIn] at h
    obtain ⟨g', gs', rfl, h3, _⟩ := h
    simp at h1 h2
    subst h1 h2
    exact h3
  | u :: ts, gs, j + 1, t, g, h, h1, h2 => by
    simp only [TreesIn] at h
    obtain ⟨g', gs', rfl, _, h4⟩ := h
    simp only [List.getElem?_cons_succ] at h1 h2
    exact TreesIn.get h4 h1 h2
theorem set_mid {α : Type} (A B : List α) (x y : α) (p : Nat) (h : A.length = p) : (A ++ x :: B).set p y = A ++ y :: B := by
  subst h
  rw [List.set_append_right _ _ zL, Nat.sub_self]
  rfl
theorem get_mid {α : Type} (A B : List α) (x : α) (p : Nat) (h : A.length = p) : (A ++ x :: B)[p]? = some x := by
  subst h
  rw [List.getElem?_append_right zL, Nat.sub_self]
  rfl
theorem wpList_append_list2 {P : Program} {α : Type} {ops : Array Oper} {rest : List Oper} {o : Oper} {a : Act} {Q : Exit → Act → World → Prop} {w : World} (hgd : o.guard = none) (s x : Operand) (t : TypeId)
    (ho : o.op = .call { callee := .builtin .append, args := #[s, x], argTypes := #[t, t] })
    (base B : Nat) (e : TypeId) (i : TypeInfo) (z : Value) (size bytes : Nat) (ht : P.underlying t = some (.slice e)) (hi : P.info? e = some i) (hz : i.zero = some z)
    (hsize : i.size = size) (hby : i.bytes = bytes) (hzs : z.cells.size = size) (hsz : 0 < size) {R : List Value → α → Prop} {l m : List α}
    (v : Value) (hs : a.eval s = v) (hown : Own1 w base e size R v l) (A : Option Addr) (n c : Nat) (hx : a.eval x = .slice A n c) (hsrc : SlR w B size R (.slice A n c) m)
    (N : Nat) (hN : N = l.length + n) (h1 : ∀ x y, R x y → ∀ u ∈ x, u.oneCell' = true) (h63 : l.length + n ≤ maxLen) (hbytes : (l.length + n) * bytes ≤ 140737488355328) (hbase : base ≤ w.heap.size)
    (h : ∀ (a' : Option Addr) (c' : Nat) w', Own1 w' base e size R (.slice a' N c') (l ++ m) → w.grownBy w' v.ownBlock → ((Value.slice a' N c').ownBlock = v.ownBlock ∨ (Value.slice a' N c').ownBlock = some w.heap.size) → wpList P ops Q rest (a.put o.dst (.slice a' N c')) w') : wpList P ops Q (o :: rest) a w := by
  refine wpList_plain hgd fun K hK => ?_
  obtain ⟨v', w', hrun, h2, h3, h4⟩ := run_append_list (P := P) w base B t o.type e i z size bytes ht hi hz hsize hby hzs hsz v hown A n c hsrc h1 h63 hbytes hbase
  unfold Oper.wp execOp
  simp only [ho, resolve, invoke, builtin, Sem.run_bind, Sem.run_pure, Result.andThen_ok, List.map_toArray, List.map_cons, List.map_nil, hs, hx, hrun]
  obtain ⟨a', c', rfl⟩ := h2.form
  have e : (l ++ m).length = N := by rw [hN, List.length_append, hsrc.len]
  rw [e] at h2 h4 ⊢
  exact hK _ _ (h a' c' w' h2 h3 h4)
section
variable {X : World} {B : Nat} {v : Value} {es : List (EN × Value)}
theorem EL.nil (X : World) (B : Nat) : EL X B (.slice none 0 0) [] := ⟨⟨[], ⟨rfl, .inl ⟨rfl, rfl⟩⟩, FlatR.nil_⟩, fun i p h => by simp at h, fun i j p p' b _ h => by simp at h⟩
theorem EL.alloc (h : EL X B v es) (o : Obj) : EL (X.alloc o) B v es := ⟨h.main.alloc o, fun i p hp => (h.kids i p hp).alloc o, h.apart⟩
theorem EL.drewN (h : EL X B v es) (n : Nat) : EL (X.drewN n) B v es := ⟨h.main.drewN n, fun i p hp => (h.kids i p hp).drewN n, h.apart⟩
theorem EL.push (h : EL X B v es) {X' : World} {v' : Value} {e : EN} (he : e.kids = []) (hm : Own1 X' B 116 4 IsEN v' (es ++ [(e, .slice none 0 0)])) (hg : X.grownBy X' v.ownBlock) : EL X' B v' (es ++ [(e, .slice none 0 0)]) := by
  refine ⟨hm, fun i p hp => ?_, fun i j p p' b hij hi hj hb => ?_⟩
  · rcases Nat.lt_or_ge i es.length with hl | hl
    · rw [List.getElem?_append_left hl] at hp
      exact (h.kids i p hp).kept1 h.main (by decide) hg
    · rw [List.getElem?_append_right hl] at hp
      have : i - es.length = 0 := by
        rcases Nat.eq_zero_or_pos (i - es.length) with h0 | h0
        · exact h0
        · rw [List.getElem?_eq_none (by simp; omega)] at hp; cases hp
      rw [this] at hp
      simp at hp
      subst hp
      rw [he]
      exact ⟨[], ⟨rfl, .inl ⟨rfl, rfl⟩⟩, FlatR.nil_⟩
  · have key : ∀ (i : Nat) (p : EN × Value), (es ++ [(e, Value.slice none 0 0)])[i]? = some p → es[i]? = some p ∨ p.2 = .slice none 0 0 := by
      intro i p hp
      rcases Nat.lt_or_ge i es.length with hl | hl
      · rw [List.getElem?_append_left hl] at hp; exact .inl hp
      · rw [List.getElem?_append_right hl] at hp
        have : p ∈ [(e, Value.slice none 0 0)] := List.mem_iff_getElem?.2 ⟨_, hp⟩
        simp at this
        subst this
        exact .inr rfl
    rcases key i p hi with h1 | h1
    · rcases key j p' hj with h2 | h2
      · exact h.apart i j p p' b hij h1 h2 hb
      · rw [h2]; exact fun e => by cases e
    · rw [h1] at hb; cases hb
theorem flat_set3 {xs : List Value} {p : Nat} {e : EN} {kv kv' : Value} {ks : List Nat} (h : FlatR 4 IsEN xs es) (hp : es[p]? = some (e, kv)) (hkv : ∃ a n c, kv' = .slice a n c) : FlatR 4 IsEN (xs.set (p * 4 + 3) kv') (es.set p (⟨e.kind, e.text, e.num, ks⟩, kv')) := by
  have hpl := (List.getElem?_eq_some_iff.1 hp).1
  have hle : p * 4 + 4 ≤ xs.length := by rw [h.1]; omega
  refine ⟨by rw [List.length_set, List.length_set]; exact h.1, fun i y hy => ?_⟩
  by_cases hi : i = p
  · subst hi
    rw [List.getElem?_set_self hpl] at hy
    injection hy with hy
    subst hy
    have h0 := (h.2 i _ hp).1
    refine ⟨?_, hkv⟩
    have e1 : ((xs.set (i * 4 + 3) kv').drop (i * 4)).take 4 = ((xs.drop (i * 4)).take 4).set 3 kv' := by
      apply List.ext_getElem?
      intro m
      rw [List.getElem?_set, List.getElem?_take, List.length_take, List.length_drop]
      split
      · rename_i hm
        rw [List.getElem?_drop, List.getElem?_set]
        by_cases h3 : 3 = m
        · subst h3
          simp only [if_true]
          rw [if_pos (by omega), if_pos (by omega)]
        · rw [if_neg (by omega), if_neg h3, List.getElem?_take_of_lt hm, List.getElem?_drop]
      · rename_i hm
        rw [if_neg (by omega), List.getElem?_take, if_neg hm]
    rw [e1, h0]
    rfl
  · rw [List.getElem?_set_ne (fun e => hi e.symm)] at hy
    have e1 : ((xs.set (p * 4 + 3) kv').drop (i * 4)).take 4 = (xs.drop (i * 4)).take 4 := by
      apply List.ext_getElem?
      intro m
      rw [List.getElem?_take, List.getElem?_take]
      split
      · rw [List.getElem?_drop, List.getElem?_drop, List.getElem?_set_ne (by omega)]
      · rfl
    rw [e1]
    exact h.2 i y hy
theorem EL.kid {n c g p q : Nat} {e : EN} {kv kv' : Value} {X2 : World} (h : EL X B (.slice (some ⟨g, 0, none⟩) n c) es) (hp : es[p]? = some (e, kv)) (hkv : ∃ a n c, kv' = .slice a n c) (o : Obj)
    (hown : Own1 X2 B 3 1 IsNat kv' (e.kids ++ [q])) (hg : (X.alloc o).grownBy X2 kv.ownBlock) (hat : kv'.ownBlock = kv.ownBlock ∨ kv'.ownBlock = some (X.heap.size + 1)) :
    EL (X2.setCell ⟨g, p * 4 + 3, none⟩ kv') B (.slice (some ⟨g, 0, none⟩) n c) (es.set p (⟨e.kind, e.text, e.num, e.kids ++ [q]⟩, kv')) := by
  have h1 := h.alloc o
  have hpl := (List.getElem?_eq_some_iff.1 hp).1
  have m2 : Own1 X2 B 116 4 IsEN (.slice (some ⟨g, 0, none⟩) n c) es := h1.main.kept1 (h1.kids p _ hp) (by decide) hg
  have hnl : n = es.length := by obtain ⟨a', c', he⟩ := m2.form; injection he
  have kk : ∀ (i : Nat) (x : EN × Value), i ≠ p → es[i]? = some x → Own1 X2 B 3 1 IsNat x.2 x.1.kids := fun i x hi hx => (h1.kids i x hx).stay (fun b hb hl => hg.block b hl (fun e' => h.apart i p x _ b hi hx hp hb e'.symm))
  have far : ∀ {v1 : Value} {l1 : List Nat}, Own1 X2 B 3 1 IsNat v1 l1 → Own1 (X2.setCell ⟨g, p * 4 + 3, none⟩ kv') B 3 1 IsNat v1 l1 := fun ho => ho.stay (fun b hb _ => Below.heap_setCell X2 ⟨g, p * 4 + 3, none⟩ kv' b (fun e' => m2.ne_block ho (by decide) g rfl (by rw [hb]; exact congrArg some e')))
  refine ⟨?_, fun i x hx => ?_, fun i j x x' b hij hi hj hb => ?_⟩
  · obtain ⟨xs, k1, k2⟩ := m2
    subst hnl
    exact ⟨_, by rw [List.length_set]; exact (k1.stored (p * 4 + 3) kv').1, flat_set3 k2 hp hkv⟩
  · by_cases hi : i = p
    · subst hi
      rw [List.getElem?_set_self hpl] at hx
      injection hx with hx
      subst hx
      exact far hown
    · rw [List.getElem?_set_ne (fun e' => hi e'.symm)] at hx
      exact far (kk i x hi hx)
  · have old : ∀ (i : Nat) (x : EN × Value) (b : Nat), es[i]? = some x → x.2.ownBlock = some b → b < X.heap.size := fun i x b hx hb => ((h.kids i x hx).block b hb).2
    by_cases hip : i = p
    · subst hip
      rw [List.getElem?_set_self hpl] at hi
      injection hi with hi
      subst hi
      rw [List.getElem?_set_ne hij] at hj
      intro e'
      have hb' : kv'.ownBlock = some b := hb
      rcases hat with h2 | h2
      · exact h.apart i j _ _ b hij hp hj (by rw [← h2]; exact hb') e'
      · rw [h2] at hb'
        injection hb' with hb'
        have := old j x' b hj e'
        omega
    · rw [List.getElem?_set_ne (fun e' => hip e'.symm)] at hi
      by_cases hjp : j = p
      · subst hjp
        rw [List.getElem?_set_self hpl] at hj
        injection hj with hj
        subst hj
        intro e'
        have hb' : kv'.ownBlock = some b := e'
        rcases hat with h2 | h2
        · exact h.apart i j _ _ b hij hi hp hb (by rw [← h2]; exact hb')
        · rw [h2] at hb'
          injection hb' with hb'
          have := old i x b hi hb
          omega
      · rw [List.getElem?_set_ne (fun e' => hjp e'.symm)] at hj
        exact h.apart i j x x' b hij hi hj hb
end
end Go.Proofs.YtpkggobhhieeoaaDoor
