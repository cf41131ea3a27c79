/- The parser's 'row': parts of a level with signs between them. -/
import Derived.Test.YtlenenfgedgmhaaDoorSign
import Derived.Deep.LoopGhost
import Derived.Deep.RegionHeld3
import Derived.Deep.RegionHeld2
namespace Go.Proofs.YtlenenfgedgmhaaDoor
set_option linter.unusedSimpArgs false
set_option linter.unusedVariables false
open Go.RowKit

section
variable {q : Nat} {a : Option Addr} {c sz : Nat} {l : List Tok} {i : Nat} {W : World}
/-- what a function of the parser comes to, as the grammar says -/
def Reads (q : Nat) (a : Option Addr) (c sz : Nat) (l : List Tok) (W : World) : PR → Ending → World → Prop
  | .ok t j, e, w' => (∃ g, e = .returned (.pointer (some ⟨g, 0, none⟩)) ∧ TreeAt w' W.heap.size t g) ∧ Mv q W w' ∧ PSt q a c sz l j w'
  | .no j, e, w' => e = .panicked (thrownE (placeAt l sz j)) ∧ Mv q W w'
  | .out, _, _ => False
/-- a function reads as the grammar says, wherever that is told -/
def LevelC (q : Nat) (a : Option Addr) (c sz : Nat) (l : List Tok) (fn : FuncId) (rd : Nat → PR) : Prop :=
  ∀ (i : Nat) (W : World), PSt q a c sz l i W → rd i ≠ .out → Calls Tryd.prog fn #[.pointer (some ⟨q, 0, none⟩)] W (Reads q a c sz l W (rd i))
theorem Mv.cell {W W' : World} (h : Mv q W W') {p : Addr} {u : Value} (hp : q < p.block) (hc : W.cell? p = some u) : W'.cell? p = some u := by
  have hlt : p.block < W.heap.size := cell_lt hc
  have hh := h.high p.block hp hlt
  unfold World.cell? at hc ⊢
  rw [hh]
  exact hc
/-- two trees under a node -/
theorem node2 {w : World} {lo k g1 g2 : Nat} {t1 t2 : Tr} (hlo : lo ≤ w.heap.size) (h1 : TreeAt w lo t1 g1) (h2 : TreeAt w lo t2 g2) :
    TreeAt ((w.alloc (.cells #[.pointer (some ⟨g1, 0, none⟩), .pointer (some ⟨g2, 0, none⟩)] 60)).alloc (.cells #[.int .i64 (k : Int), .string (txt []), .int .i64 0, .slice none 0 0, .slice (some ⟨w.heap.size, 0, none⟩) 2 2] 91)) lo (.node k [] 0 [t1, t2]) (w.heap.size + 1) := by
  have hb : Below w.heap.size w ((w.alloc (.cells #[.pointer (some ⟨g1, 0, none⟩), .pointer (some ⟨g2, 0, none⟩)] 60)).alloc (.cells #[.int .i64 (k : Int), .string (txt []), .int .i64 0, .slice none 0 0, .slice (some ⟨w.heap.size, 0, none⟩) 2 2] 91)) :=
    ((Below.refl _ _).alloc (Nat.le_refl _) _).alloc (by simp) _
  have hi := High.of_below hb (Nat.le_refl _) lo
  simp only [TreeAt, TreeIn, TreesIn]
  refine ⟨by omega, _, [g1, g2], Blk.new_ (by simp) _ _, ⟨[.pointer (some ⟨g1, 0, none⟩), .pointer (some ⟨g2, 0, none⟩)], ⟨rfl, .inr ⟨w.heap.size, 2, _, rfl, Nat.zero_le _, (Blk.new w 60 #[.pointer (some ⟨g1, 0, none⟩), .pointer (some ⟨g2, 0, none⟩)]).alloc _, Nat.le_refl _, by unfold maxLen; simp, by simp, by simp⟩⟩, rfl, fun j y hy => ?_⟩, (fun b hb => by simp [Value.ownBlock] at hb; omega), g1, [g2], rfl, h1.high hi, g2, [], rfl, h2.high hi, rfl⟩
  rcases j with _ | _ | j
  · injection hy with hy; subst hy; rfl
  · injection hy with hy; subst hy; rfl
  · simp at hy
/-- a level of the grammar, above the one below it -/
def rowR (l : List Tok) (f n i : Nat) : PR := (pL l f (n + 1) i).bind fun t j => pR l f n t j
set_option maxRecDepth 100000 in
set_option maxHeartbeats 8000000 in
theorem p_row (n f : Nat) (fB : FuncId) (once : Bool) (honce : once = decide (n = 4))
    (hcall : ∀ args w, (callFunc fB args).run Tryd.prog w = .ok (.enter fB args) w)
    (HB : ∀ f', f' ≤ f → LevelC q a c sz l fB (fun i => pL l f' (n + 1) i)) (h : PSt q a c sz l i W) (hr : rowR l f n i ≠ .out) :
    Calls Tryd.prog 45 #[.pointer (some ⟨q, 0, none⟩), .int .i64 (n : Int), .func (.func fB) #[.pointer (some ⟨q, 0, none⟩)] #[], .bool once] W (Reads q a c sz l W (rowR l f n i)) := by
  obtain ⟨r, hr0⟩ : ∃ r, rowR l f n i = r := ⟨_, rfl⟩
  rw [hr0] at hr ⊢
  unfold rowR at hr0
  have H := Lib.hid h
  have HBf : Hid (pL l f (n + 1) i ≠ .out → Calls Tryd.prog fB #[.pointer (some ⟨q, 0, none⟩)] W (Reads q a c sz l W (pL l f (n + 1) i))) := Lib.hid (HB f (Nat.le_refl _) i W h)
  have HBs := Lib.hid (fun (f' : Nat) (hf : f' ≤ f) (i : Nat) (X : World) (hX : PSt q a c sz l i X) (hne : pL l f' (n + 1) i ≠ .out) => (show Calls Tryd.prog fB #[.pointer (some ⟨q, 0, none⟩)] X (Reads q a c sz l X (pL l f' (n + 1) i)) from HB f' hf i X hX hne))
  have HO := Lib.hid honce
  have QL := Lib.hid h.box.lt
  clear HB h honce
  cases hb : pL l f (n + 1) i with
  | out => rw [hb] at hr0; exact absurd hr0.symm hr
  | no j =>
    rw [hb] at hr0 HBf
    have HF := Lib.hid (HBf.out (by simp))
    have hr1 : PR.no j = r := hr0
    subst hr1
    clear hb hr0 hr HBf
    go_enter Tryd.func45, Tryd.ntmps45
    go_wp2_with (first
      | (refine HF.out.mono ?_; rintro e w1 ⟨rfl, h1⟩; have M1 := Lib.hid h1; clear h1))
    exact ⟨rfl, rfl, M1.out⟩
  | ok t j =>
    rw [hb] at hr0 HBf
    have HF := Lib.hid (HBf.out (by simp))
    have hr1 : pR l f n t j = r := hr0
    have HR := Lib.hid hr1
    have HNE := Lib.hid hr
    clear hb hr0 hr HBf hr1
    go_enter Tryd.func45, Tryd.ntmps45
    go_wp2_with (first
      | (refine HF.out.mono ?_; rintro e w1 ⟨⟨g1, rfl, h1⟩, h2, h3⟩; have T1 := Lib.hid h1; have M1 := Lib.hid h2; have P1 := Lib.hid h3; clear h1 h2 h3))
    go_loopg [8, 9, 10, 11] f (fun gk _ v _ _ wr => ∃ (t : Tr) (j g : Nat), gk ≤ f ∧ v = .pointer (some ⟨g, 0, none⟩) ∧ Hid (pR l gk n t j = r) ∧ Hid (TreeAt wr W.heap.size t g) ∧ Hid (Mv q W wr) ∧ Hid (PSt q a c sz l j wr))
    case atStart => exact ⟨t, j, g1, Nat.le_refl _, rfl, HR, T1, M1, P1⟩
    case round =>
      clear T1 M1 P1 HF HR
      obtain ⟨t, j, g, hgk, rfl, hr, ht, hm, hp⟩ := hrel
      have HR := hr
      have HT := ht
      have HM := hm
      have HP := hp
      clear hr ht hm hp
      cases gk with
      | zero =>
        exfalso
        have := HR.out
        rw [pR] at this
        exact HNE.out this.symm
      | succ f1 =>
      have hr := HR.out
      rw [pR, signK_find] at hr
      obtain ⟨R, hR⟩ : ∃ R, signsL.find? (signP l n j) = R := ⟨_, rfl⟩
      have HS := Lib.hid (p_sign0 n HP.out R hR)
      rw [hR] at hr
      cases R with
      | none =>
        rw [if_pos rfl] at hr
        subst hr
        clear hR
        go_wp2_with (first
          | (go_at_call 72; (with_reducible refine HS.out.mono ?_); rintro e w2 ⟨rfl, h2, h3⟩; have M2 := Lib.hid h2; have P2 := Lib.hid h3; clear h2 h3))
        go_ret
        have ha := (Below.refl w2.heap.size w2).alloc (Nat.le_refl _) (.cells #[.string ByteArray.empty, .int .i64 0, .int .i64 0] 113)
        exact ⟨⟨g, rfl, (HT.out.high (High.of_mv M2.out QL.out)).high (High.of_below ha (Nat.le_refl _) _)⟩, (HM.out.trans M2.out).trans (Mv.of_below ha (Nat.le_trans (Nat.le_of_lt QL.out) (Nat.le_trans HM.out.low.size M2.out.low.size))), P2.out.keep ha⟩
      | some x =>
        obtain ⟨xt, xk, xl⟩ := x
        have hk0 : xk ≠ 0 := by
          have : ∀ m ∈ signsL, m.2.1 ≠ 0 := by decide
          exact this _ (List.mem_of_find?_eq_some hR)
        dsimp only at hr
        rw [if_neg hk0] at hr
        clear hR hk0
        cases hb : pL l f1 (n + 1) (j + 1) with
        | out => rw [hb] at hr; exact absurd hr.symm HNE.out
        | no j2 =>
          rw [hb] at hr
          have hr1 : PR.no j2 = r := hr
          subst hr1
          have HB2 := Lib.hid (fun X (hX : PSt q a c sz l (j + 1) X) => (show Calls Tryd.prog fB #[.pointer (some ⟨q, 0, none⟩)] X (Reads q a c sz l X (.no j2)) by have := HBs.out f1 (by omega) (j + 1) X hX (by simp [hb]); rwa [hb] at this))
          clear hb hr
          go_wp2_with (first
            | (go_at_call 72; (with_reducible refine HS.out.mono ?_); rintro e w2 ⟨rfl, h2, h3⟩; have M2 := Lib.hid h2; have P2 := Lib.hid h3; clear h2 h3))
          have kb := Blk.new w2 113 #[.string (txt xt), .int .i64 (xk : Int), .int .i64 (xl : Int)]
          have ba := (Below.refl w2.heap.size w2).alloc (Nat.le_refl _) (.cells #[.string (txt xt), .int .i64 (xk : Int), .int .i64 (xl : Int)] 113)
          have lq2 : q < w2.heap.size := P2.out.box.lt
          generalize hwb : World.alloc w2 _ = wb
          rw [hwb] at kb ba
          clear hwb
          obtain ⟨bs, hbs⟩ : ∃ z, w2.heap.size = z := ⟨_, rfl⟩
          have MB : Hid (Mv q W wb) := Lib.hid ((HM.out.trans M2.out).trans (Mv.of_below ba (Nat.le_of_lt lq2)))
          have PB := Lib.hid (P2.out.keep ba)
          have TB : Hid (TreeAt wb W.heap.size t g) := Lib.hid ((HT.out.high (High.of_mv M2.out QL.out)).high (High.of_below ba (Nat.le_refl _) _))
          rw [hbs] at kb lq2 ⊢
          have KB : wb.cell? ⟨bs, 1, none⟩ = some (.int .i64 (xk : Int)) := kb.cell rfl
          have lbs := kb.lt
          clear kb ba hbs
          refine wp_region_held_drew (S := fun w' => w'.cell? ⟨bs, 1, none⟩ = some (.int .i64 (xk : Int))) (by kernel_rfl) KB (fun hHeld => ?_)
          refine wpAnyH_take (i := 0) (v := ?_) rfl (by kernel_rfl) (by kernel_rfl) (by kernel_rfl) (fun _ _ _ h => h) (Or.inl ⟨by rfl, ?_⟩) (by assumption) ?_
          rotate_left
          · intro w hSw; (try dsimp only at hSw); go_simp; with_reducible rfl
          try simp only [Act.put, List.setIfInBounds_toArray, List.set_cons_zero, List.set_cons_succ]
          refine wpAnyH_take (i := 1) (v := ?_) rfl (by kernel_rfl) (by kernel_rfl) (by kernel_rfl) (fun _ _ _ h => h) (Or.inl ⟨by rfl, ?_⟩) (by assumption) ?_
          rotate_left
          · intro w hSw; (try dsimp only at hSw); go_simp; with_reducible rfl
          try simp only [Act.put, List.setIfInBounds_toArray, List.set_cons_zero, List.set_cons_succ]
          refine wpAnyH_take (i := 2) (v := ?_) rfl (by kernel_rfl) (by kernel_rfl) (by kernel_rfl) (fun _ _ _ h => h) (Or.inl ⟨by rfl, ?_⟩) (by assumption) ?_
          rotate_left
          · intro w hSw; (try dsimp only at hSw); go_simp; with_reducible rfl
          try simp only [Act.put, List.setIfInBounds_toArray, List.set_cons_zero, List.set_cons_succ]
          refine wpAnyH_take (i := 3) (v := ?_) rfl (by kernel_rfl) (by kernel_rfl) (by kernel_rfl) (fun _ _ _ h => h) (Or.inl ⟨by rfl, ?_⟩) (by assumption) ?_
          rotate_left
          · intro w hSw; (try dsimp only at hSw); go_simp; with_reducible rfl
          try simp only [Act.put, List.setIfInBounds_toArray, List.set_cons_zero, List.set_cons_succ]
          refine wpAnyH_ready (rs := [4]) (by kernel_rfl) (by simp) ?_
          refine AllReadyH.cons rfl (fun K hK => ?_) AllReadyH.nil
          go_simp
          go_wp2_with (first
            | (refine (HB2.out _ (PB.out.quiet ⟨1, rfl⟩)).mono ?_; rintro e w3 ⟨rfl, h1⟩; have M3 : Hid (Mv q W w3) := Lib.hid (MB.out.trans ((Mv.quiet ⟨1, rfl⟩).trans h1)); clear h1))
          exact ⟨rfl, rfl, M3.out⟩
        | ok t2 j2 =>
          have HB2 := Lib.hid (fun X (hX : PSt q a c sz l (j + 1) X) => (show Calls Tryd.prog fB #[.pointer (some ⟨q, 0, none⟩)] X (Reads q a c sz l X (.ok t2 j2)) by have := HBs.out f1 (by omega) (j + 1) X hX (by simp [hb]); rwa [hb] at this))
          have HR2 := Lib.hid hr
          have Hb := Lib.hid hb
          clear hb hr
          go_wp2_with (first
            | (go_at_call 72; (with_reducible refine HS.out.mono ?_); rintro e w2 ⟨rfl, h2, h3⟩; have M2 := Lib.hid h2; have P2 := Lib.hid h3; clear h2 h3))
          have kb := Blk.new w2 113 #[.string (txt xt), .int .i64 (xk : Int), .int .i64 (xl : Int)]
          have ba := (Below.refl w2.heap.size w2).alloc (Nat.le_refl _) (.cells #[.string (txt xt), .int .i64 (xk : Int), .int .i64 (xl : Int)] 113)
          have lq2 : q < w2.heap.size := P2.out.box.lt
          generalize hwb : World.alloc w2 _ = wb
          rw [hwb] at kb ba
          clear hwb
          obtain ⟨bs, hbs⟩ : ∃ z, w2.heap.size = z := ⟨_, rfl⟩
          have MB : Hid (Mv q W wb) := Lib.hid ((HM.out.trans M2.out).trans (Mv.of_below ba (Nat.le_of_lt lq2)))
          have PB := Lib.hid (P2.out.keep ba)
          have TB : Hid (TreeAt wb W.heap.size t g) := Lib.hid ((HT.out.high (High.of_mv M2.out QL.out)).high (High.of_below ba (Nat.le_refl _) _))
          rw [hbs] at kb lq2 ⊢
          have KB : wb.cell? ⟨bs, 1, none⟩ = some (.int .i64 (xk : Int)) := kb.cell rfl
          have lbs := kb.lt
          clear kb ba hbs
          go_region_held3 (fun w' => w'.cell? ⟨bs, 1, none⟩ = some (.int .i64 (xk : Int)))
            (first | exact KB | exact K3 | go_keep | fail)
            (first
              | (refine (HB2.out _ (PB.out.quiet ⟨1, rfl⟩)).mono ?_; rintro e w3 ⟨⟨g2, rfl, h1⟩, h2, h3⟩; have K3 : w3.cell? ⟨bs, 1, none⟩ = some (.int .i64 (xk : Int)) := h2.cell lq2 KB; have T3 := Lib.hid h1; have M3 := Lib.hid h2; have P3 := Lib.hid h3; clear h1 h2 h3)
              | (go_at_call 73; refine (p_of xk [] _ _ _ _).mono ?_; rintro e w4 ⟨rfl, rfl⟩))
          have e1 : (wb.drewN 1).heap.size = wb.heap.size := rfl
          have MW : Mv q W w3 := MB.out.trans ((Mv.quiet ⟨1, rfl⟩).trans M3.out)
          have lW : W.heap.size ≤ (wb.drewN 1).heap.size := by rw [e1]; exact MB.out.low.size
          have N2 := Lib.hid (node2 (k := xk) (lo := W.heap.size) MW.low.size ((TB.out.high (High.of_mv (Mv.quiet (W' := wb.drewN 1) ⟨1, rfl⟩) QL.out)).high (High.of_mv M3.out QL.out)) (T3.out.mono lW))
          have bN := ((Below.refl w3.heap.size w3).alloc (Nat.le_refl _) (.cells #[.pointer (some ⟨g, 0, none⟩), .pointer (some ⟨g2, 0, none⟩)] 60)).alloc (by simp) (.cells #[.int .i64 (xk : Int), .string (txt []), .int .i64 0, .slice none 0 0, .slice (some ⟨w3.heap.size, 0, none⟩) 2 2] 91)
          have MN := Lib.hid (MW.trans (Mv.of_below bN (Nat.le_of_lt P3.out.box.lt)))
          have PN := Lib.hid (P3.out.keep bN)
          clear MW bN e1 lW KB K3
          have hr := HR2.out
          rw [Hb.out] at hr
          have hr1 : (if n = 4 then PR.ok (.node xk [] 0 [t, t2]) j2 else pR l f1 n (.node xk [] 0 [t, t2]) j2) = r := hr
          clear hr
          by_cases hn4 : n = 4
          · rw [if_pos hn4] at hr1
            subst hr1
            have ho := HO.out
            rw [decide_eq_true hn4] at ho
            subst ho
            clear hn4
            go_wp2_with fail
            go_ret
            exact ⟨⟨_, rfl, N2.out⟩, MN.out, PN.out⟩
          · rw [if_neg hn4] at hr1
            have HR3 := Lib.hid hr1
            have ho := HO.out
            rw [decide_eq_false hn4] at ho
            subst ho
            clear hn4 hr1
            go_wp2_with fail
            go_roundg f1
            case measure => omega
            case rel => exact ⟨_, _, _, by omega, rfl, HR3, N2, MN, PN⟩
end
end Go.Proofs.YtlenenfgedgmhaaDoor
