/- The parser's 'not' and 'post'. -/
import Derived.Test.YtlenenfgedgmhaaDoorRow
namespace Go.Proofs.YtlenenfgedgmhaaDoor
set_option linter.unusedSimpArgs false
set_option linter.unusedVariables false
open Go.RowKit

section
variable {q : Nat} {a : Option Addr} {c sz : Nat} {l : List Tok} {i : Nat} {W : World}
/-- a tree under a node -/
theorem node1 {w : World} {lo k g1 : Nat} {s : List Nat} {t1 : Tr} (hlo : lo ≤ w.heap.size) (h1 : TreeAt w lo t1 g1) :
    TreeAt ((w.alloc (.cells #[.pointer (some ⟨g1, 0, none⟩)] 60)).alloc (.cells #[.int .i64 (k : Int), .string (txt s), .int .i64 0, .slice none 0 0, .slice (some ⟨w.heap.size, 0, none⟩) 1 1] 91)) lo (.node k s 0 [t1]) (w.heap.size + 1) := by
  have hb : Below w.heap.size w ((w.alloc (.cells #[.pointer (some ⟨g1, 0, none⟩)] 60)).alloc (.cells #[.int .i64 (k : Int), .string (txt s), .int .i64 0, .slice none 0 0, .slice (some ⟨w.heap.size, 0, none⟩) 1 1] 91)) :=
    ((Below.refl _ _).alloc (Nat.le_refl _) _).alloc (by simp) _
  have hi := High.of_below hb (Nat.le_refl _) lo
  simp only [TreeAt, TreeIn, TreesIn]
  refine ⟨by omega, _, [g1], Blk.new_ (by simp) _ _, ⟨[.pointer (some ⟨g1, 0, none⟩)], ⟨rfl, .inr ⟨w.heap.size, 1, _, rfl, Nat.zero_le _, (Blk.new w 60 #[.pointer (some ⟨g1, 0, none⟩)]).alloc _, Nat.le_refl _, by unfold maxLen; simp, by simp, by simp⟩⟩, rfl, fun j y hy => ?_⟩, (fun b hb => by simp [Value.ownBlock] at hb; omega), g1, [], rfl, h1.high hi, rfl⟩
  rcases j with _ | j
  · injection hy with hy; subst hy; rfl
  · simp at hy
/-- a node by itself, known whole -/
theorem node0 {w : World} {lo k g : Nat} {s : List Nat} {n : Int} (hlo : lo ≤ g) (h : Blk w g 91 #[.int .i64 (k : Int), .string (txt s), .int .i64 n, .slice none 0 0, .slice none 0 0]) : TreeAt w lo (.node k s n []) g := by
  simp only [TreeAt, TreeIn, TreesIn]
  exact ⟨hlo, _, [], h, ⟨[], ⟨rfl, .inl ⟨rfl, rfl⟩⟩, FlatR.nil_⟩, (fun b hb => by cases hb), rfl⟩
theorem Reads.back {W1 : World} {r : PR} {e : Ending} {w' : World} (hm : Mv q W W1) (h : Reads q a c sz l W1 r e w') : Reads q a c sz l W r e w' := by
  cases r with
  | ok t j => exact ⟨⟨h.1.choose, h.1.choose_spec.1, h.1.choose_spec.2.mono hm.low.size⟩, hm.trans h.2.1, h.2.2⟩
  | no j => exact ⟨h.1, hm.trans h.2⟩
  | out => exact h
theorem Reads.get {t : Tr} {j : Nat} {e : Ending} {w' : World} (h : Reads q a c sz l W (.ok t j) e w') : ∃ g, e = .returned (.pointer (some ⟨g, 0, none⟩)) ∧ TreeAt w' W.heap.size t g ∧ Mv q W w' ∧ PSt q a c sz l j w' :=
  ⟨h.1.choose, h.1.choose_spec.1, h.1.choose_spec.2, h.2.1, h.2.2⟩
theorem Reads.mk_ {t : Tr} {j g : Nat} {w' : World} (h1 : TreeAt w' W.heap.size t g) (h2 : Mv q W w') (h3 : PSt q a c sz l j w') : Reads q a c sz l W (.ok t j) (.returned (.pointer (some ⟨g, 0, none⟩))) w' := ⟨⟨g, rfl, h1⟩, h2, h3⟩
theorem below2a (w : World) (o o' : Obj) : Below w.heap.size w ((w.alloc o).alloc o') := ((Below.refl _ _).alloc (Nat.le_refl _) o).alloc (by simp) o'
theorem Reads.node1 {w : World} {t : Tr} {j g1 k : Nat} {s : List Nat} (h1 : TreeAt w W.heap.size t g1) (h2 : Mv q W w) (h3 : PSt q a c sz l j w) :
    Reads q a c sz l W (.ok (.node k s 0 [t]) j) (.returned (.pointer (some ⟨w.heap.size + 1, 0, none⟩))) ((w.alloc (.cells #[.pointer (some ⟨g1, 0, none⟩)] 60)).alloc (.cells #[.int .i64 (k : Int), .string (txt s), .int .i64 0, .slice none 0 0, .slice (some ⟨w.heap.size, 0, none⟩) 1 1] 91)) :=
  Reads.mk_ (Go.Proofs.YtlenenfgedgmhaaDoor.node1 h2.low.size h1) (h2.trans (Mv.of_below (below2a w _ _) (Nat.le_of_lt h3.box.lt))) (h3.keep (below2a w _ _))
set_option maxRecDepth 100000 in
set_option maxHeartbeats 8000000 in
theorem p_not (f : Nat) (HN : LevelC q a c sz l 74 (fun i => pL l f 3 i)) (HC : LevelC q a c sz l 96 (fun i => pL l f 4 i)) : LevelC q a c sz l 74 (fun i => pL l (f + 1) 3 i) := by
  intro i W h hr
  have hr0 : pL l (f + 1) 3 i = if isT l i notT then (pL l f 3 (i + 1)).bind fun k j => .ok (.node 29 [] 0 [k]) j else pL l f 4 i := by rw [pL]; rfl
  simp only at hr ⊢
  rw [hr0] at hr ⊢
  clear hr0
  obtain ⟨f0, f1, f2, f3, f4⟩ := h.facts
  have hle := h.le
  have hfew := h.few
  have i5 : (i : Int) ≤ 5000 := by omega
  have i0 : (0 : Int) ≤ (i : Int) := Int.natCast_nonneg _
  have H := Lib.hid h
  have QL := Lib.hid h.box.lt
  obtain ⟨b, hb⟩ : ∃ b, isT l i notT = b := ⟨_, rfl⟩
  have HX := Lib.hid (p_next notT (show ∀ n ∈ notT, n < 256 by decide) b hb h)
  have hnx : (txt notT) = ⟨#[110, 111, 116]⟩ := by decide
  rw [hnx] at HX
  cases b with
  | false =>
    rw [hb, if_neg (by simp)] at hr ⊢
    obtain ⟨r, hrr⟩ : ∃ r, pL l f 4 i = r := ⟨_, rfl⟩
    have HC1 : Hid (∀ n, Calls Tryd.prog 96 #[.pointer (some ⟨q, 0, none⟩)] (W.drewN n) (Reads q a c sz l (W.drewN n) r)) := Lib.hid (fun n => by rw [← hrr]; exact HC i (W.drewN n) (h.quiet ⟨n, rfl⟩) hr)
    rw [hrr] at hr ⊢
    clear HN HC h hb hle hfew hrr hnx
    cases r with
    | out => exact absurd rfl hr
    | no j =>
      clear hr
      go_enter Tryd.func74, Tryd.ntmps74
      go_wp2_with (first
        | (go_at_call 95; (with_reducible refine HX.out.mono ?_); rintro e w1 ⟨rfl, nq, rfl⟩)
        | (go_at_call 96; refine (HC1.out _).mono ?_; rintro e w2 ⟨rfl, h2⟩; have M2 := Lib.hid h2; clear h2))
      exact ⟨rfl, rfl, (Mv.quiet ⟨_, rfl⟩).trans M2.out⟩
    | ok t j =>
      clear hr
      go_enter Tryd.func74, Tryd.ntmps74
      go_wp2_with (first
        | (go_at_call 95; (with_reducible refine HX.out.mono ?_); rintro e w1 ⟨rfl, nq, rfl⟩)
        | (go_at_call 96; refine (HC1.out _).mono ?_; rintro e w2 h2; obtain ⟨g, rfl, h3, h4, h5⟩ := h2.get; have M2 := Lib.hid (And.intro h3 (And.intro h4 h5)); clear h2 h3 h4 h5))
      go_ret
      exact (Reads.mk_ M2.out.1 M2.out.2.1 M2.out.2.2).back (Mv.quiet ⟨_, rfl⟩)
  | true =>
    rw [hb, if_pos rfl] at hr ⊢
    obtain ⟨r, hrr⟩ : ∃ r, pL l f 3 (i + 1) = r := ⟨_, rfl⟩
    have hlt := isT_lt hb
    have ST := Lib.hid (fun n => h.step (j := i + 1) (u := .int .i64 ((i : Int) + 1)) (by go_num) hlt n)
    have hne : r ≠ .out := fun e => hr (by rw [hrr, e]; rfl)
    have HC1 : Hid (∀ n, Calls Tryd.prog 74 #[.pointer (some ⟨q, 0, none⟩)] ((W.drewN n).setCell ⟨q, 1, none⟩ (.int .i64 ((i : Int) + 1))) (Reads q a c sz l ((W.drewN n).setCell ⟨q, 1, none⟩ (.int .i64 ((i : Int) + 1))) r)) := Lib.hid (fun n => by have hq := (ST.out n).2; rw [← hrr]; exact HN (i + 1) _ hq (by show pL l f 3 (i + 1) ≠ .out; rw [hrr]; exact hne))
    rw [hrr]
    clear HN HC h hb hle hfew hrr hr hlt hnx
    cases r with
    | out => exact absurd rfl hne
    | no j =>
      clear hne
      go_enter Tryd.func74, Tryd.ntmps74
      go_wp2_with (first
        | (go_at_call 95; (with_reducible refine HX.out.mono ?_); rintro e w1 ⟨rfl, nq, rfl⟩)
        | (go_at_call 74; refine (HC1.out _).mono ?_; rintro e w2 ⟨rfl, h2⟩; have M2 := Lib.hid h2; clear h2))
      exact ⟨rfl, rfl, (ST.out _).1.trans M2.out⟩
    | ok t j =>
      clear hne
      go_enter Tryd.func74, Tryd.ntmps74
      go_wp2_with (first
        | (go_at_call 95; (with_reducible refine HX.out.mono ?_); rintro e w1 ⟨rfl, nq, rfl⟩)
        | (go_at_call 74; refine (HC1.out _).mono ?_; rintro e w2 h2; obtain ⟨g, rfl, h3, h4, h5⟩ := h2.get; have M2 := Lib.hid (And.intro h3 (And.intro h4 h5)); clear h2 h3 h4 h5)
        | (go_at_call 73; refine (p_of 29 [] _ _ _ _).mono ?_; rintro e w4 ⟨rfl, rfl⟩))
      go_ret
      exact Reads.back (ST.out _).1 (Reads.node1 M2.out.1 M2.out.2.1 M2.out.2.2)
set_option maxRecDepth 100000 in
set_option maxHeartbeats 8000000 in
theorem p_post (f : Nat) (HP : LevelC q a c sz l 122 (fun i => pP l f i)) : LevelC q a c sz l 119 (fun i => pL l (f + 1) 7 i) := by
  intro i W h hr
  have hr0 : pL l (f + 1) 7 i = (pP l f i).bind fun t j => pQ l f t j := by rw [pL]; rfl
  simp only at hr ⊢
  rw [hr0] at hr ⊢
  obtain ⟨r, hr1⟩ : ∃ r, ((pP l f i).bind fun t j => pQ l f t j) = r := ⟨_, rfl⟩
  rw [hr1] at hr ⊢
  have H := Lib.hid h
  have QL := Lib.hid h.box.lt
  clear hr0
  cases hb : pP l f i with
  | out => rw [hb] at hr1; exact absurd hr1.symm hr
  | no j =>
    rw [hb] at hr1
    have HF : Hid (Calls Tryd.prog 122 #[.pointer (some ⟨q, 0, none⟩)] W (Reads q a c sz l W (.no j))) := Lib.hid (by rw [← hb]; exact HP i W h (by simp [hb]))
    have hr2 : PR.no j = r := hr1
    subst hr2
    clear HP h hr1 hb hr
    go_enter Tryd.func119, Tryd.ntmps119
    go_wp2_with (first
      | (go_at_call 122; refine HF.out.mono ?_; rintro e w1 ⟨rfl, h1⟩; have M1 := Lib.hid h1; clear h1))
    exact ⟨rfl, rfl, M1.out⟩
  | ok t j =>
    rw [hb] at hr1
    have HF : Hid (Calls Tryd.prog 122 #[.pointer (some ⟨q, 0, none⟩)] W (Reads q a c sz l W (.ok t j))) := Lib.hid (by rw [← hb]; exact HP i W h (by simp [hb]))
    have hr2 : pQ l f t j = r := hr1
    have HR := Lib.hid hr2
    have HNE := Lib.hid hr
    clear HP h hr1 hb hr hr2
    go_enter Tryd.func119, Tryd.ntmps119
    go_wp2_with (first
      | (go_at_call 122; refine HF.out.mono ?_; rintro e w1 h2; obtain ⟨g1, rfl, h3, h4, h5⟩ := h2.get; have T1 := Lib.hid h3; have M1 := Lib.hid h4; have P1 := Lib.hid h5; clear h2 h3 h4 h5))
    go_loopg [2, 3, 4, 5, 6] f (fun gk _ v _ _ _ wr => ∃ (t : Tr) (j g : Nat), v = .pointer (some ⟨g, 0, none⟩) ∧ Hid (pQ l gk t j = r) ∧ Hid (TreeAt wr W.heap.size t g) ∧ Hid (Mv q W wr) ∧ Hid (PSt q a c sz l j wr))
    case atStart => exact ⟨t, j, g1, rfl, HR, T1, M1, P1⟩
    case round =>
      clear T1 M1 P1 HF HR
      obtain ⟨t, j, g, rfl, hr, ht, hm, hp⟩ := hrel
      have HR := hr
      have HT := ht
      have HM := hm
      have HP := hp
      clear hr ht hm hp
      cases gk with
      | zero =>
        exfalso
        have := HR.out
        rw [pQ] at this
        exact HNE.out this.symm
      | succ f1 =>
      have hr := HR.out
      rw [pQ, signK_find] at hr
      obtain ⟨R, hR⟩ : ∃ R, signsL.find? (signP l 7 j) = R := ⟨_, rfl⟩
      have HS : Hid (Calls Tryd.prog 72 #[.pointer (some ⟨q, 0, none⟩), .int .i64 7] wr fun e w' => SignIs q a c sz l j wr R e w') := Lib.hid (p_sign0 7 HP.out R hR)
      rw [hR] at hr
      cases R with
      | none =>
        rw [if_pos rfl] at hr
        subst hr
        clear hR
        go_wp2_with (first
          | (go_at_call 72; (with_reducible refine HS.out.mono ?_); rintro e w2 ⟨rfl, h2, h3⟩; have M2 := Lib.hid h2; have P2 := Lib.hid h3; clear h2 h3))
        go_ret
        have ha := (Below.refl w2.heap.size w2).alloc (Nat.le_refl _) (.cells #[.string ByteArray.empty, .int .i64 0, .int .i64 0] 113)
        exact ⟨⟨g, rfl, (HT.out.high (High.of_mv M2.out QL.out)).high (High.of_below ha (Nat.le_refl _) _)⟩, (HM.out.trans M2.out).trans (Mv.of_below ha (Nat.le_trans (Nat.le_of_lt QL.out) (Nat.le_trans HM.out.low.size M2.out.low.size))), P2.out.keep ha⟩
      | some x =>
        obtain ⟨xt, xk, xl⟩ := x
        have hk0 : xk ≠ 0 := by
          have : ∀ m ∈ signsL, m.2.1 ≠ 0 := by decide
          exact this _ (List.mem_of_find?_eq_some hR)
        dsimp only at hr
        rw [if_neg hk0] at hr
        clear hR hk0
        by_cases hk11 : xk = 11
        · subst hk11
          rw [if_pos rfl] at hr
          have HR2 := Lib.hid hr
          clear hr
          go_wp2_with (first
            | (go_at_call 72; (with_reducible refine HS.out.mono ?_); rintro e w2 ⟨rfl, h2, h3⟩; have M2 := Lib.hid h2; have P2 := Lib.hid h3; clear h2 h3)
            | (go_at_call 73; refine (p_of 11 [] _ _ _ _).mono ?_; rintro e w4 ⟨rfl, rfl⟩))
          have ba := (Below.refl w2.heap.size w2).alloc (Nat.le_refl _) (.cells #[.string (txt xt), .int .i64 11, .int .i64 (xl : Int)] 113)
          have TB := (HT.out.high (High.of_mv M2.out QL.out)).high (High.of_below ba (Nat.le_refl _) _)
          have MB := (HM.out.trans M2.out).trans (Mv.of_below (q := q) ba (Nat.le_of_lt P2.out.box.lt))
          have PB := P2.out.keep ba
          have N2 := Lib.hid (Go.Proofs.YtlenenfgedgmhaaDoor.node1 (k := 11) (s := []) (lo := W.heap.size) (w := w2.alloc (.cells #[.string (txt xt), .int .i64 11, .int .i64 (xl : Int)] 113)) MB.low.size TB)
          have MN := Lib.hid (MB.trans (Mv.of_below (q := q) (below2a (w2.alloc (.cells #[.string (txt xt), .int .i64 11, .int .i64 (xl : Int)] 113)) (.cells #[.pointer (some ⟨g, 0, none⟩)] 60) (.cells #[.int .i64 ((11 : Nat) : Int), .string (txt []), .int .i64 0, .slice none 0 0, .slice (some ⟨(w2.alloc (.cells #[.string (txt xt), .int .i64 11, .int .i64 (xl : Int)] 113)).heap.size, 0, none⟩) 1 1] 91)) (Nat.le_of_lt PB.box.lt)))
          have PN := Lib.hid (PB.keep (below2a (w2.alloc (.cells #[.string (txt xt), .int .i64 11, .int .i64 (xl : Int)] 113)) (.cells #[.pointer (some ⟨g, 0, none⟩)] 60) (.cells #[.int .i64 ((11 : Nat) : Int), .string (txt []), .int .i64 0, .slice none 0 0, .slice (some ⟨(w2.alloc (.cells #[.string (txt xt), .int .i64 11, .int .i64 (xl : Int)] 113)).heap.size, 0, none⟩) 1 1] 91)))
          go_roundg f1
          case measure => omega
          case rel => exact ⟨_, _, _, rfl, HR2, Lib.hid (by have := N2.out; simp only [World.size_alloc] at this; exact this), Lib.hid (by have := MN.out; simp only [World.size_alloc] at this; exact this), Lib.hid (by have := PN.out; simp only [World.size_alloc] at this; exact this)⟩
        · rw [if_neg hk11] at hr
          have d1 : (((xk : Int)) != 11) = true := by simp; omega
          unfold nameAt at hr
          by_cases hnm : ∃ tk, l[j + 1]? = some tk ∧ tk.kind = 3
          · obtain ⟨tk, htk, hkd⟩ := hnm
            rw [htk] at hr
            simp only at hr
            rw [if_pos hkd] at hr
            have HR2 := Lib.hid hr
            have HN := Lib.hid (fun X (hX : PSt q a c sz l (j + 1) X) => p_name_yes htk hkd hX)
            clear hr htk hkd hk11
            go_wp2_with (first
              | (go_at_call 72; (with_reducible refine HS.out.mono ?_); rintro e w2 ⟨rfl, h2, h3⟩; have M2 := Lib.hid h2; have P2 := Lib.hid h3; clear h2 h3)
              | (go_at_call 123; refine (HN.out _ (P2.out.keep ((Below.refl w2.heap.size w2).alloc (Nat.le_refl _) (.cells #[.string (txt xt), .int .i64 (xk : Int), .int .i64 (xl : Int)] 113)))).mono ?_; rintro e w3 ⟨rfl, h2, h3⟩; have K3 : w3.cell? ⟨w2.heap.size, 1, none⟩ = some (.int .i64 (xk : Int)) := h2.cell P2.out.box.lt ((Blk.new w2 113 #[.string (txt xt), .int .i64 (xk : Int), .int .i64 (xl : Int)]).cell rfl); have M3 := Lib.hid h2; have P3 := Lib.hid h3; clear h2 h3)
              | (go_at_call 73; refine (p_of xk tk.text _ _ _ _).mono ?_; rintro e w4 ⟨rfl, rfl⟩))
            have ba := (Below.refl w2.heap.size w2).alloc (Nat.le_refl _) (.cells #[.string (txt xt), .int .i64 (xk : Int), .int .i64 (xl : Int)] 113)
            have TB := ((HT.out.high (High.of_mv M2.out QL.out)).high (High.of_below ba (Nat.le_refl _) _)).high (High.of_mv M3.out QL.out)
            have MB := ((HM.out.trans M2.out).trans (Mv.of_below (q := q) ba (Nat.le_of_lt P2.out.box.lt))).trans M3.out
            have PB := P3.out
            have N2 := Lib.hid (Go.Proofs.YtlenenfgedgmhaaDoor.node1 (k := xk) (s := tk.text) (lo := W.heap.size) (w := w3) MB.low.size TB)
            have MN := Lib.hid (MB.trans (Mv.of_below (q := q) (below2a (w3) (.cells #[.pointer (some ⟨g, 0, none⟩)] 60) (.cells #[.int .i64 ((xk : Nat) : Int), .string (txt tk.text), .int .i64 0, .slice none 0 0, .slice (some ⟨(w3).heap.size, 0, none⟩) 1 1] 91)) (Nat.le_of_lt PB.box.lt)))
            have PN := Lib.hid (PB.keep (below2a (w3) (.cells #[.pointer (some ⟨g, 0, none⟩)] 60) (.cells #[.int .i64 ((xk : Nat) : Int), .string (txt tk.text), .int .i64 0, .slice none 0 0, .slice (some ⟨(w3).heap.size, 0, none⟩) 1 1] 91)))
            go_roundg f1
            case measure => omega
            case rel => exact ⟨_, _, _, rfl, HR2, N2, MN, PN⟩
          · have hno : r = .no (j + 1) := by
              rw [← hr]
              cases htk : l[j + 1]? with
              | none => rfl
              | some tk => exact if_neg fun e => hnm ⟨tk, htk, e⟩
            subst hno
            have HN := Lib.hid (fun X (hX : PSt q a c sz l (j + 1) X) => p_name_no (fun t ht e => hnm ⟨t, ht, e⟩) hX)
            clear hr hk11 hnm
            go_wp2_with (first
              | (go_at_call 72; (with_reducible refine HS.out.mono ?_); rintro e w2 ⟨rfl, h2, h3⟩; have M2 := Lib.hid h2; have P2 := Lib.hid h3; clear h2 h3)
              | (go_at_call 123; refine (HN.out _ (P2.out.keep ((Below.refl w2.heap.size w2).alloc (Nat.le_refl _) (.cells #[.string (txt xt), .int .i64 (xk : Int), .int .i64 (xl : Int)] 113)))).mono ?_; rintro e w3 ⟨rfl, h2⟩; have M3 := Lib.hid h2; clear h2))
            have ba := (Below.refl w2.heap.size w2).alloc (Nat.le_refl _) (.cells #[.string (txt xt), .int .i64 (xk : Int), .int .i64 (xl : Int)] 113)
            exact ⟨rfl, rfl, ((HM.out.trans M2.out).trans (Mv.of_below (q := q) ba (Nat.le_of_lt P2.out.box.lt))).trans (Mv.quiet M3.out)⟩
end
end Go.Proofs.YtlenenfgedgmhaaDoor
