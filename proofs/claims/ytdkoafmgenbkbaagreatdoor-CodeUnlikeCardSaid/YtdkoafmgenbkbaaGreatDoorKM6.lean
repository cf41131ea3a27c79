/- - - - - - - - - -/
import Derived.Test.YtdkoafmgenbkbaaGreatDoorKM1
import Derived.Test.YtdkoafmgenbkbaaGreatDoorKM5
set_option maxRecDepth 100000
set_option maxHeartbeats 32000000
set_option linter.unusedSimpArgs false
set_option linter.unusedVariables false
namespace Go.Proofs.YtdkoafmgenbkbaaGreatDoor
open Go.RowKit
section
variable {P : Program} {ops : Array Oper} {Q : Exit → Act → World → Prop} {md : Region.Mode}
def afters (ops : Array Oper) (k : Nat) : List Nat := ((ops[k]?).map fun o => (o.after.toList.filter (Region.binds .any)).map (·.on)).getD []
def reach (ops : Array Oper) : Nat → Nat → List Nat
  | 0, _ => []
  | n + 1, k => afters ops k ++ (afters ops k).flatMap (reach ops n)
end
theorem wf47 {x : Int} (h1 : -9223372036854775808 ≤ x) (h2 : x ≤ 9223372036854775807) : (Lit.int .i64 x).wf = true := by
  simpa [Lit.wf, IntKind.min, IntKind.max, IntKind.signed, IntKind.bits] using ⟨h1, h2⟩
end Go.Proofs.YtdkoafmgenbkbaaGreatDoor
namespace Go.Proofs.YtdkoafmgenbkbaaGreatDoor
open Go.RowKit
section
variable {q : Nat} {a : Option Addr} {c sz : Nat} {l : List Tok} {i : Nat} {W : World}
theorem node1 {w : World} {lo k g1 : Nat} {s : List Nat} {t1 : Tr} (hlo : lo ≤ w.heap.size) (h1 : TreeAt w lo t1 g1) :
    TreeAt ((w.alloc (.cells #[.pointer (some ⟨g1, 0, none⟩)] 111)).alloc (.cells #[.int .i64 (k : Int), .string (txt s), .int .i64 0, .slice none 0 0, .slice (some ⟨w.heap.size, 0, none⟩) 1 1] 135)) lo (.node k s 0 [t1]) (w.heap.size + 1) := by
  have hb : Below w.heap.size w ((w.alloc (.cells #[.pointer (some ⟨g1, 0, none⟩)] 111)).alloc (.cells #[.int .i64 (k : Int), .string (txt s), .int .i64 0, .slice none 0 0, .slice (some ⟨w.heap.size, 0, none⟩) 1 1] 135)) :=
    (zB.alloc zL _).alloc (by simp) _
  have hi := High.of_below hb zL lo
  simp only [TreeAt, TreeIn, TreesIn]
  refine ⟨by omega, _, [g1], Blk.new_ (by simp) _ _, ⟨[.pointer (some ⟨g1, 0, none⟩)], ⟨rfl, .inr ⟨w.heap.size, 1, _, rfl, Nat.zero_le _, (Blk.new w 111 #[.pointer (some ⟨g1, 0, none⟩)]).alloc _, Nat.le_refl _, by unfold maxLen; simp, by simp, by simp⟩⟩, rfl, fun j y hy => ?_⟩, (fun b hb => by simp [Value.ownBlock] at hb; omega), g1, [], rfl, h1.high hi, rfl⟩
  rcases j with _ | j
  · injection hy with hy; subst hy; rfl
  · simp at hy
theorem node0 {w : World} {lo k g : Nat} {s : List Nat} {n : Int} (hlo : lo ≤ g) (h : Blk w g 135 #[.int .i64 (k : Int), .string (txt s), .int .i64 n, .slice none 0 0, .slice none 0 0]) : TreeAt w lo (.node k s n []) g := by
  simp only [TreeAt, TreeIn, TreesIn]
  exact ⟨hlo, _, [], h, ⟨[], ⟨rfl, .inl ⟨rfl, rfl⟩⟩, FlatR.nil_⟩, (fun b hb => by cases hb), rfl⟩
theorem Reads.back {W1 : World} {r : PR} {e : Ending} {w' : World} (hm : Mv q W W1) (h : Reads q a c sz l W1 r e w') : Reads q a c sz l W r e w' := by
  cases r with
  | ok t j => exact ⟨⟨h.1.choose, h.1.choose_spec.1, h.1.choose_spec.2.mono hm.low.size⟩, hm.trans h.2.1, h.2.2⟩
  | no j => exact ⟨h.1, hm.trans h.2⟩
  | out => exact h
theorem Reads.get {t : Tr} {j : Nat} {e : Ending} {w' : World} (h : Reads q a c sz l W (.ok t j) e w') : ∃ g, e = .returned (.pointer (some ⟨g, 0, none⟩)) ∧ TreeAt w' W.heap.size t g ∧ Mv q W w' ∧ PSt q a c sz l j w' :=
  ⟨h.1.choose, h.1.choose_spec.1, h.1.choose_spec.2, h.2.1, h.2.2⟩
theorem Reads.mk_ {t : Tr} {j g : Nat} {w' : World} (h1 : TreeAt w' W.heap.size t g) (h2 : Mv q W w') (h3 : PSt q a c sz l j w') : Reads q a c sz l W (.ok t j) (.returned (.pointer (some ⟨g, 0, none⟩))) w' := ⟨⟨g, rfl, h1⟩, h2, h3⟩
theorem below2a (w : World) (o o' : Obj) : Below w.heap.size w ((w.alloc o).alloc o') := (zB.alloc zL o).alloc (by simp) o'
theorem Reads.node1 {w : World} {t : Tr} {j g1 k : Nat} {s : List Nat} (h1 : TreeAt w W.heap.size t g1) (h2 : Mv q W w) (h3 : PSt q a c sz l j w) :
    Reads q a c sz l W (.ok (.node k s 0 [t]) j) (.returned (.pointer (some ⟨w.heap.size + 1, 0, none⟩))) ((w.alloc (.cells #[.pointer (some ⟨g1, 0, none⟩)] 111)).alloc (.cells #[.int .i64 (k : Int), .string (txt s), .int .i64 0, .slice none 0 0, .slice (some ⟨w.heap.size, 0, none⟩) 1 1] 135)) :=
  Reads.mk_ (Go.Proofs.YtdkoafmgenbkbaaGreatDoor.node1 h2.low.size h1) (h2.trans (Mv.of_below (below2a w _ _) (Nat.le_of_lt h3.box.lt))) (h3.keep (below2a w _ _))
theorem p_not (f : Nat) (HN : LevelC q a c sz l 86 (fun i => pL l f 3 i)) (HC : LevelC q a c sz l 101 (fun i => pL l f 4 i)) : LevelC q a c sz l 86 (fun i => pL l (f + 1) 3 i) := by
  intro i W h hr
  have hr0 : pL l (f + 1) 3 i = if isT l i notT then (pL l f 3 (i + 1)).bind fun k j => .ok (.node 29 [] 0 [k]) j else pL l f 4 i := by rw [pL]; rfl
  simp only at hr ⊢
  rw [hr0] at hr ⊢
  clear hr0
  obtain ⟨f0, f1, f2, f3, f4⟩ := h.facts
  have hle := h.le
  have hfew := h.few
  have i5 : (i : Int) ≤ 5000 := by omega
  have i0 : (0 : Int) ≤ (i : Int) := Int.natCast_nonneg _
  have H := zH h
  have QL := zH h.box.lt
  obtain ⟨b, hb⟩ : ∃ b, isT l i notT = b := ⟨_, rfl⟩
  have HX := zH (p_next notT (show ∀ n ∈ notT, n < 256 by decide) b hb h)
  have hnx : (txt notT) = ⟨#[110, 111, 116]⟩ := by decide
  rw [hnx] at HX
  cases b with
  | false =>
    rw [hb, if_neg (by simp)] at hr ⊢
    obtain ⟨r, hrr⟩ : ∃ r, pL l f 4 i = r := ⟨_, rfl⟩
    have HC1 : Hid (∀ n, Calls Tryz.prog 101 #[.pointer (some ⟨q, 0, none⟩)] (W.drewN n) (Reads q a c sz l (W.drewN n) r)) := zH (fun n => by rw [← hrr]; exact HC i (W.drewN n) (h.quiet ⟨n, rfl⟩) hr)
    rw [hrr] at hr ⊢
    clear HN HC h hb hle hfew hrr hnx
    cases r with
    | out => exact absurd rfl hr
    | no j =>
      clear hr
      go_enter Tryz.func86, Tryz.ntmps86
      go_wp2_with (first
        | (go_at_call 100; (with_reducible refine HX.out.mono ?_); rintro e w1 ⟨rfl, nq, rfl⟩)
        | (go_at_call 101; refine (HC1.out _).mono ?_; rintro e w2 ⟨rfl, h2⟩; have M2 := zH h2; clear h2))
      exact ⟨rfl, rfl, (Mv.quiet ⟨_, rfl⟩).trans M2.out⟩
    | ok t j =>
      clear hr
      go_enter Tryz.func86, Tryz.ntmps86
      go_wp2_with (first
        | (go_at_call 100; (with_reducible refine HX.out.mono ?_); rintro e w1 ⟨rfl, nq, rfl⟩)
        | (go_at_call 101; refine (HC1.out _).mono ?_; rintro e w2 h2; obtain ⟨g, rfl, h3, h4, h5⟩ := h2.get; have M2 := zH (And.intro h3 (And.intro h4 h5)); clear h2 h3 h4 h5))
      go_ret
      exact (Reads.mk_ M2.out.1 M2.out.2.1 M2.out.2.2).back (Mv.quiet ⟨_, rfl⟩)
  | true =>
    rw [hb, if_pos rfl] at hr ⊢
    obtain ⟨r, hrr⟩ : ∃ r, pL l f 3 (i + 1) = r := ⟨_, rfl⟩
    have hlt := isT_lt hb
    have ST := zH (fun n => h.step (j := i + 1) (u := .int .i64 ((i : Int) + 1)) (by go_num) hlt n)
    have hne : r ≠ .out := fun e => hr (by rw [hrr, e]; rfl)
    have HC1 : Hid (∀ n, Calls Tryz.prog 86 #[.pointer (some ⟨q, 0, none⟩)] ((W.drewN n).setCell ⟨q, 1, none⟩ (.int .i64 ((i : Int) + 1))) (Reads q a c sz l ((W.drewN n).setCell ⟨q, 1, none⟩ (.int .i64 ((i : Int) + 1))) r)) := zH (fun n => by have hq := (ST.out n).2; rw [← hrr]; exact HN (i + 1) _ hq (by show pL l f 3 (i + 1) ≠ .out; rw [hrr]; exact hne))
    rw [hrr]
    clear HN HC h hb hle hfew hrr hr hlt hnx
    cases r with
    | out => exact absurd rfl hne
    | no j =>
      clear hne
      go_enter Tryz.func86, Tryz.ntmps86
      go_wp2_with (first
        | (go_at_call 100; (with_reducible refine HX.out.mono ?_); rintro e w1 ⟨rfl, nq, rfl⟩)
        | (go_at_call 86; refine (HC1.out _).mono ?_; rintro e w2 ⟨rfl, h2⟩; have M2 := zH h2; clear h2))
      exact ⟨rfl, rfl, (ST.out _).1.trans M2.out⟩
    | ok t j =>
      clear hne
      go_enter Tryz.func86, Tryz.ntmps86
      go_wp2_with (first
        | (go_at_call 100; (with_reducible refine HX.out.mono ?_); rintro e w1 ⟨rfl, nq, rfl⟩)
        | (go_at_call 86; refine (HC1.out _).mono ?_; rintro e w2 h2; obtain ⟨g, rfl, h3, h4, h5⟩ := h2.get; have M2 := zH (And.intro h3 (And.intro h4 h5)); clear h2 h3 h4 h5)
        | (go_at_call 85; refine (p_of 29 [] _ _ _ _).mono ?_; rintro e w4 ⟨rfl, rfl⟩))
      go_ret
      exact Reads.back (ST.out _).1 (Reads.node1 M2.out.1 M2.out.2.1 M2.out.2.2)
theorem p_post (f : Nat) (HP : LevelC q a c sz l 118 (fun i => pP l f i)) : LevelC q a c sz l 117 (fun i => pL l (f + 1) 7 i) := by
  intro i W h hr
  have hr0 : pL l (f + 1) 7 i = (pP l f i).bind fun t j => pQ l f t j := by rw [pL]; rfl
  simp only at hr ⊢
  rw [hr0] at hr ⊢
  obtain ⟨r, hr1⟩ : ∃ r, ((pP l f i).bind fun t j => pQ l f t j) = r := ⟨_, rfl⟩
  rw [hr1] at hr ⊢
  have H := zH h
  have QL := zH h.box.lt
  clear hr0
  cases hb : pP l f i with
  | out => rw [hb] at hr1; exact absurd hr1.symm hr
  | no j =>
    rw [hb] at hr1
    have HF : Hid (Calls Tryz.prog 118 #[.pointer (some ⟨q, 0, none⟩)] W (Reads q a c sz l W (.no j))) := zH (by rw [← hb]; exact HP i W h (by simp [hb]))
    have hr2 : PR.no j = r := hr1
    subst hr2
    clear HP h hr1 hb hr
    go_enter Tryz.func117, Tryz.ntmps117
    go_wp2_with (first
      | (go_at_call 118; refine HF.out.mono ?_; rintro e w1 ⟨rfl, h1⟩; have M1 := zH h1; clear h1))
    exact ⟨rfl, rfl, M1.out⟩
  | ok t j =>
    rw [hb] at hr1
    have HF : Hid (Calls Tryz.prog 118 #[.pointer (some ⟨q, 0, none⟩)] W (Reads q a c sz l W (.ok t j))) := zH (by rw [← hb]; exact HP i W h (by simp [hb]))
    have hr2 : pQ l f t j = r := hr1
    have HR := zH hr2
    have HNE := zH hr
    clear HP h hr1 hb hr hr2
    go_enter Tryz.func117, Tryz.ntmps117
    go_wp2_with (first
      | (go_at_call 118; refine HF.out.mono ?_; rintro e w1 h2; obtain ⟨g1, rfl, h3, h4, h5⟩ := h2.get; have T1 := zH h3; have M1 := zH h4; have P1 := zH h5; clear h2 h3 h4 h5))
    go_loopg [2, 3, 4, 5, 6] f (fun gk _ v _ _ _ wr => ∃ (t : Tr) (j g : Nat), v = .pointer (some ⟨g, 0, none⟩) ∧ Hid (pQ l gk t j = r) ∧ Hid (TreeAt wr W.heap.size t g) ∧ Hid (Mv q W wr) ∧ Hid (PSt q a c sz l j wr))
    case atStart => exact ⟨t, j, g1, rfl, HR, T1, M1, P1⟩
    case round =>
      clear T1 M1 P1 HF HR
      obtain ⟨t, j, g, rfl, hr, ht, hm, hp⟩ := hrel
      have HR := hr
      have HT := ht
      have HM := hm
      have HP := hp
      clear hr ht hm hp
      cases gk with
      | zero =>
        exfalso
        have := HR.out
        rw [pQ] at this
        exact HNE.out this.symm
      | succ f1 =>
      have hr := HR.out
      rw [pQ, signK_find] at hr
      obtain ⟨R, hR⟩ : ∃ R, signsL.find? (signP l 7 j) = R := ⟨_, rfl⟩
      have HS : Hid (Calls Tryz.prog 84 #[.pointer (some ⟨q, 0, none⟩), .int .i64 7] wr fun e w' => SignIs q a c sz l j wr R e w') := zH (p_sign0 7 HP.out R hR)
      rw [hR] at hr
      cases R with
      | none =>
        rw [if_pos rfl] at hr
        subst hr
        clear hR
        go_wp2_with (first
          | (go_at_call 84; (with_reducible refine HS.out.mono ?_); rintro e w2 ⟨rfl, h2, h3⟩; have M2 := zH h2; have P2 := zH h3; clear h2 h3))
        go_ret
        have ha := (Below.refl w2.heap.size w2).alloc zL (.cells #[.string ByteArray.empty, .int .i64 0, .int .i64 0] 145)
        exact ⟨⟨g, rfl, (HT.out.high (High.of_mv M2.out QL.out)).high (High.of_below ha zL _)⟩, (HM.out.trans M2.out).trans (Mv.of_below ha (Nat.le_trans (Nat.le_of_lt QL.out) (Nat.le_trans HM.out.low.size M2.out.low.size))), P2.out.keep ha⟩
      | some x =>
        obtain ⟨xt, xk, xl⟩ := x
        have hk0 : xk ≠ 0 := by
          have : ∀ m ∈ signsL, m.2.1 ≠ 0 := by decide
          exact this _ (List.mem_of_find?_eq_some hR)
        dsimp only at hr
        rw [if_neg hk0] at hr
        clear hR hk0
        by_cases hk11 : xk = 11
        · subst hk11
          rw [if_pos rfl] at hr
          have HR2 := zH hr
          clear hr
          go_wp2_with (first
            | (go_at_call 84; (with_reducible refine HS.out.mono ?_); rintro e w2 ⟨rfl, h2, h3⟩; have M2 := zH h2; have P2 := zH h3; clear h2 h3)
            | (go_at_call 85; refine (p_of 11 [] _ _ _ _).mono ?_; rintro e w4 ⟨rfl, rfl⟩))
          have ba := (Below.refl w2.heap.size w2).alloc zL (.cells #[.string (txt xt), .int .i64 11, .int .i64 (xl : Int)] 145)
          have TB := (HT.out.high (High.of_mv M2.out QL.out)).high (High.of_below ba zL _)
          have MB := (HM.out.trans M2.out).trans (Mv.of_below (q := q) ba (Nat.le_of_lt P2.out.box.lt))
          have PB := P2.out.keep ba
          have N2 := zH (Go.Proofs.YtdkoafmgenbkbaaGreatDoor.node1 (k := 11) (s := []) (lo := W.heap.size) (w := w2.alloc (.cells #[.string (txt xt), .int .i64 11, .int .i64 (xl : Int)] 145)) MB.low.size TB)
          have MN := zH (MB.trans (Mv.of_below (q := q) (below2a (w2.alloc (.cells #[.string (txt xt), .int .i64 11, .int .i64 (xl : Int)] 145)) (.cells #[.pointer (some ⟨g, 0, none⟩)] 111) (.cells #[.int .i64 ((11 : Nat) : Int), .string (txt []), .int .i64 0, .slice none 0 0, .slice (some ⟨(w2.alloc (.cells #[.string (txt xt), .int .i64 11, .int .i64 (xl : Int)] 145)).heap.size, 0, none⟩) 1 1] 135)) (Nat.le_of_lt PB.box.lt)))
          have PN := zH (PB.keep (below2a (w2.alloc (.cells #[.string (txt xt), .int .i64 11, .int .i64 (xl : Int)] 145)) (.cells #[.pointer (some ⟨g, 0, none⟩)] 111) (.cells #[.int .i64 ((11 : Nat) : Int), .string (txt []), .int .i64 0, .slice none 0 0, .slice (some ⟨(w2.alloc (.cells #[.string (txt xt), .int .i64 11, .int .i64 (xl : Int)] 145)).heap.size, 0, none⟩) 1 1] 135)))
          go_roundg f1
          case measure => omega
          case rel => exact ⟨_, _, _, rfl, HR2, zH (by have := N2.out; simp only [World.size_alloc] at this; exact this), zH (by have := MN.out; simp only [World.size_alloc] at this; exact this), zH (by have := PN.out; simp only [World.size_alloc] at this; exact this)⟩
        · rw [if_neg hk11] at hr
          have d1 : (((xk : Int)) != 11) = true := by simp; omega
          unfold nameAt at hr
          by_cases hnm : ∃ tk, l[j + 1]? = some tk ∧ tk.kind = 3
          · obtain ⟨tk, htk, hkd⟩ := hnm
            rw [htk] at hr
            simp only at hr
            rw [if_pos hkd] at hr
            have HR2 := zH hr
            have HN := zH (fun X (hX : PSt q a c sz l (j + 1) X) => p_name_yes htk hkd hX)
            clear hr htk hkd hk11
            go_wp2_with (first
              | (go_at_call 84; (with_reducible refine HS.out.mono ?_); rintro e w2 ⟨rfl, h2, h3⟩; have M2 := zH h2; have P2 := zH h3; clear h2 h3)
              | (go_at_call 119; refine (HN.out _ (P2.out.keep ((Below.refl w2.heap.size w2).alloc zL (.cells #[.string (txt xt), .int .i64 (xk : Int), .int .i64 (xl : Int)] 145)))).mono ?_; rintro e w3 ⟨rfl, h2, h3⟩; have K3 : w3.cell? ⟨w2.heap.size, 1, none⟩ = some (.int .i64 (xk : Int)) := h2.cell P2.out.box.lt ((Blk.new w2 145 #[.string (txt xt), .int .i64 (xk : Int), .int .i64 (xl : Int)]).cell rfl); have M3 := zH h2; have P3 := zH h3; clear h2 h3)
              | (go_at_call 85; refine (p_of xk tk.text _ _ _ _).mono ?_; rintro e w4 ⟨rfl, rfl⟩))
            have ba := (Below.refl w2.heap.size w2).alloc zL (.cells #[.string (txt xt), .int .i64 (xk : Int), .int .i64 (xl : Int)] 145)
            have TB := ((HT.out.high (High.of_mv M2.out QL.out)).high (High.of_below ba zL _)).high (High.of_mv M3.out QL.out)
            have MB := ((HM.out.trans M2.out).trans (Mv.of_below (q := q) ba (Nat.le_of_lt P2.out.box.lt))).trans M3.out
            have PB := P3.out
            have N2 := zH (Go.Proofs.YtdkoafmgenbkbaaGreatDoor.node1 (k := xk) (s := tk.text) (lo := W.heap.size) (w := w3) MB.low.size TB)
            have MN := zH (MB.trans (Mv.of_below (q := q) (below2a (w3) (.cells #[.pointer (some ⟨g, 0, none⟩)] 111) (.cells #[.int .i64 ((xk : Nat) : Int), .string (txt tk.text), .int .i64 0, .slice none 0 0, .slice (some ⟨(w3).heap.size, 0, none⟩) 1 1] 135)) (Nat.le_of_lt PB.box.lt)))
            have PN := zH (PB.keep (below2a (w3) (.cells #[.pointer (some ⟨g, 0, none⟩)] 111) (.cells #[.int .i64 ((xk : Nat) : Int), .string (txt tk.text), .int .i64 0, .slice none 0 0, .slice (some ⟨(w3).heap.size, 0, none⟩) 1 1] 135)))
            go_roundg f1
            case measure => omega
            case rel => exact ⟨_, _, _, rfl, HR2, N2, MN, PN⟩
          · have hno : r = .no (j + 1) := by
              rw [← hr]
              cases htk : l[j + 1]? with
              | none => rfl
              | some tk => exact if_neg fun e => hnm ⟨tk, htk, e⟩
            subst hno
            have HN := zH (fun X (hX : PSt q a c sz l (j + 1) X) => p_name_no (fun t ht e => hnm ⟨t, ht, e⟩) hX)
            clear hr hk11 hnm
            go_wp2_with (first
              | (go_at_call 84; (with_reducible refine HS.out.mono ?_); rintro e w2 ⟨rfl, h2, h3⟩; have M2 := zH h2; have P2 := zH h3; clear h2 h3)
              | (go_at_call 119; refine (HN.out _ (P2.out.keep ((Below.refl w2.heap.size w2).alloc zL (.cells #[.string (txt xt), .int .i64 (xk : Int), .int .i64 (xl : Int)] 145)))).mono ?_; rintro e w3 ⟨rfl, h2⟩; have M3 := zH h2; clear h2))
            have ba := (Below.refl w2.heap.size w2).alloc zL (.cells #[.string (txt xt), .int .i64 (xk : Int), .int .i64 (xl : Int)] 145)
            exact ⟨rfl, rfl, ((HM.out.trans M2.out).trans (Mv.of_below (q := q) ba (Nat.le_of_lt P2.out.box.lt))).trans (Mv.quiet M3.out)⟩
end
end Go.Proofs.YtdkoafmgenbkbaaGreatDoor
namespace Go.Proofs.YtdkoafmgenbkbaaGreatDoor
open Go.RowKit
theorem info_ptr : (Tryz.prog.info? 111).map (fun i => (i.zero, i.size, i.bytes)) = some (some (.pointer none), 1, 8) := by kernel_rfl
structure WS (q : Nat) (a : Option Addr) (c sz : Nat) (l : List Tok) (W : World) (g k : Nat) (s : List Nat) (ts : List Tr) (j : Nat) (X : World) (v : Value) : Prop where
  mv : Mv q W X
  st : PSt q a c sz l j X
  box : Blk X g 135 #[.int .i64 (k : Int), .string (txt s), .int .i64 0, .slice none 0 0, v]
  lo : W.heap.size ≤ g
  ql : q < W.heap.size
  row : ∃ gs, Own1 X (g + 1) 111 1 IsPtr v gs ∧ TreesIn X (fun b => g + 1 ≤ b ∧ v.ownBlock ≠ some b) ts gs
section
variable {q : Nat} {a : Option Addr} {c sz : Nat} {l : List Tok} {W : World} {g k : Nat} {s : List Nat} {ts : List Tr} {j : Nat} {X : World} {v : Value}
theorem WS.new {X0 : World} (hm : Mv q W X0) (hp : PSt q a c sz l j X0) (hq : q < W.heap.size) : WS q a c sz l W X0.heap.size k s [] j (X0.alloc (.cells #[.int .i64 (k : Int), .string (txt s), .int .i64 0, .slice none 0 0, .slice none 0 0] 135)) (.slice none 0 0) := by
  have hb := (Below.refl X0.heap.size X0).alloc zL (.cells #[.int .i64 (k : Int), .string (txt s), .int .i64 0, .slice none 0 0, .slice none 0 0] 135)
  exact ⟨hm.trans (Mv.of_below hb (Nat.le_of_lt hp.box.lt)), hp.keep hb, Blk.new _ _ _, hm.low.size, hq, [], ⟨[], ⟨rfl, .inl ⟨rfl, rfl⟩⟩, FlatR.nil_⟩, rfl⟩
theorem WS.call (h : WS q a c sz l W g k s ts j X v) {X' : World} {j' : Nat} (hm : Mv q X X') (hp : PSt q a c sz l j' X') : WS q a c sz l W g k s ts j' X' v := by
  obtain ⟨gs, h1, h2⟩ := h.row
  have hg : q < g := Nat.lt_of_lt_of_le h.ql h.lo
  refine ⟨h.mv.trans hm, hp, hm.blk h.box hg, h.lo, h.ql, gs, h1.stay (fun b hb hl => hm.high b ?_ hl), h2.stay (fun b hb hl => hm.high b (by omega) hl)⟩
  have := (h1.block b hb).1
  omega
theorem WS.quiet (h : WS q a c sz l W g k s ts j X v) {X' : World} (hq : Quiet X X') : WS q a c sz l W g k s ts j X' v := h.call (Mv.quiet hq) (h.st.quiet hq)
theorem WS.tree (h : WS q a c sz l W g k s ts j X v) : TreeAt X W.heap.size (.node k s 0 ts) g := by
  obtain ⟨gs, h1, h2⟩ := h.row
  have hlo := h.lo
  simp only [TreeAt, TreeIn]
  exact ⟨h.lo, v, gs, h.box, h1.mono (Nat.zero_le _), fun b hb => by have := (h1.block b hb).1; omega, h2.imp (fun b hb _ => by omega)⟩
theorem WS.reads (h : WS q a c sz l W g k s ts j X v) : Reads q a c sz l W (.ok (.node k s 0 ts) j) (.returned (.pointer (some ⟨g, 0, none⟩))) X := Reads.mk_ h.tree h.mv h.st
theorem WS.name (h : WS q a c sz l W g k s ts j X v) {s' : List Nat} {u : Value} (hu : u = .string (txt s')) : WS q a c sz l W g k s' ts j (X.setCell ⟨g, 1, none⟩ u) v := by
  subst hu
  obtain ⟨gs, h1, h2⟩ := h.row
  have hg : q < g := Nat.lt_of_lt_of_le h.ql h.lo
  have hst : ∀ b, g + 1 ≤ b → (X.setCell ⟨g, 1, none⟩ (.string (txt s'))).heap[b]? = X.heap[b]? := fun b hb => Below.heap_setCell X ⟨g, 1, none⟩ _ b (by show b ≠ g; omega)
  refine ⟨h.mv.setNew (p := ⟨g, 1, none⟩) _ (Nat.le_of_lt hg) h.lo, h.st.setFar (p := ⟨g, 1, none⟩) _ hg, by have := h.box.set_ 1 (.string (txt s')); simpa using this, h.lo, h.ql, gs, h1.stay (fun b hb _ => hst b (h1.block b hb).1), h2.stay (fun b hb _ => hst b hb.1)⟩
theorem WS.cells (h : WS q a c sz l W g k s ts j X v) : X.cell? ⟨g, 0, none⟩ = some (.int .i64 (k : Int)) ∧ X.cell? ⟨g, 1, none⟩ = some (.string (txt s)) ∧ X.cell? ⟨g, 4, none⟩ = some v ∧ X.frozen? ⟨g, 1, none⟩ = false ∧ X.frozen? ⟨g, 4, none⟩ = false ∧ g < X.heap.size :=
  ⟨h.box.cell rfl, h.box.cell rfl, h.box.cell rfl, h.box.frozen 1, h.box.frozen 4, h.box.lt⟩
theorem own_ptr {base : Nat} {gs : List Nat} (h : Own1 X base 111 1 IsPtr v gs) : X.ownsRow base 111 1 v gs.length (gs.map fun x => Value.pointer (some ⟨x, 0, none⟩)) := by
  obtain ⟨xs, h1, h2⟩ := h
  have : xs = gs.map fun x => Value.pointer (some ⟨x, 0, none⟩) := by
    apply List.ext_getElem?
    intro i
    have hl := h2.1
    rw [Nat.mul_one] at hl
    rcases Nat.lt_or_ge i gs.length with hi | hi
    · have := h2.2 i gs[i] (List.getElem?_eq_getElem hi)
      unfold IsPtr at this
      rw [Nat.mul_one] at this
      have e : ((xs.drop i).take 1)[0]? = xs[i]? := by rw [List.getElem?_take_of_lt (by omega), List.getElem?_drop, Nat.add_zero]
      rw [← e, this, List.getElem?_map, List.getElem?_eq_getElem hi]
      rfl
    · rw [List.getElem?_eq_none (by omega), List.getElem?_eq_none (by simp; omega)]
  rw [← this]
  exact h1
theorem TreesIn.len {S : Nat → Prop} : ∀ {ts : List Tr} {gs : List Nat}, TreesIn X S ts gs → gs.length = ts.length
  | [], gs, h => by simp only [TreesIn] at h; subst h; rfl
  | t :: ts, gs, h => by simp only [TreesIn] at h; obtain ⟨g', gs', rfl, _, h3⟩ := h; simp [TreesIn.len h3]
theorem news1 (w : World) (p : Value) (T : TypeId) : ∀ j u, [p][j]? = some u → (w.alloc (.cells #[p] T)).cell? ((⟨w.heap.size, 0, none⟩ : Addr).add j) = some u := by
  intro j u hu
  rcases j with _ | j
  · have hp : p = u := by simpa using hu
    subst hp
    exact (Blk.new w T #[p]).cell rfl
  · simp at hu
theorem WS.own4 (h : WS q a c sz l W g k s ts j X v) {gs : List Nat} (h1 : Own1 X (g + 1) 111 1 IsPtr v gs) {Xd w3 : World} (hd : Quiet X Xd) (hm : Mv q Xd w3) (o : Obj) (n : Nat) (hn : gs.length = n) : (w3.alloc o).ownsRow (g + 1) 111 1 v n (gs.map fun x => Value.pointer (some ⟨x, 0, none⟩)) := by
  subst hn
  have hg : q < g := Nat.lt_of_lt_of_le h.ql h.lo
  refine own_ptr (Own1.alloc (Own1.stay h1 (fun b hb hl => ?_)) o)
  have := (h1.block b hb).1
  obtain ⟨m, rfl⟩ := hd
  exact hm.high b (by omega) hl
theorem WS.box5 (h : WS q a c sz l W g k s ts j X v) {Xd w3 w5 : World} (hd : Quiet X Xd) (hm : Mv q Xd w3) (o : Obj) (hgrow : (w3.alloc o).grownBy w5 v.ownBlock) : Blk w5 g 135 #[.int .i64 (k : Int), .string (txt s), .int .i64 0, .slice none 0 0, v] := by
  obtain ⟨gs, h1, h2⟩ := h.row
  have hg : q < g := Nat.lt_of_lt_of_le h.ql h.lo
  have b3 := hm.blk (h.quiet hd).box hg
  refine (b3.alloc o).keep (hgrow.block g (by have := b3.lt; rw [World.size_alloc]; omega) (fun e => ?_))
  have := (h1.block g e.symm).1
  omega
theorem WS.push (h : WS q a c sz l W g k s ts j X v) {Xd w3 w5 : World} {t : Tr} {g1 j' b cap n : Nat} {xs : List Value} {u : Value} (hd : Quiet X Xd) (hm : Mv q Xd w3) (ht : TreeAt w3 X.heap.size t g1) (hp : PSt q a c sz l j' w3)
    {gs : List Nat} (h1 : Own1 X (g + 1) 111 1 IsPtr v gs) (h2 : TreesIn X (fun b => g + 1 ≤ b ∧ v.ownBlock ≠ some b) ts gs) (hl : gs.length = n) (hx : xs = gs.map fun x => Value.pointer (some ⟨x, 0, none⟩))
    (hown : w5.ownsRow (g + 1) 111 1 (.slice (some ⟨b, 0, none⟩) (n + 1) cap) (n + 1) (xs ++ [.pointer (some ⟨g1, 0, none⟩)]))
    (hgrow : (w3.alloc (.cells #[.pointer (some ⟨g1, 0, none⟩)] 111)).grownBy w5 v.ownBlock) (hat : v.ownBlock = some b ∨ b = w3.heap.size + 1) (hu : u = .slice (some ⟨b, 0, none⟩) (n + 1) cap) :
    WS q a c sz l W g k s (ts ++ [t]) j' (w5.setCell ⟨g, 4, none⟩ u) (.slice (some ⟨b, 0, none⟩) (n + 1) cap) := by
  subst hu
  have h' := h.quiet hd
  have hg : q < g := Nat.lt_of_lt_of_le h.ql h.lo
  have hgX := h.box.lt
  have hsz : Xd.heap.size = X.heap.size := by obtain ⟨m, rfl⟩ := hd; rfl
  have hvb : ∀ b', v.ownBlock = some b' → g + 1 ≤ b' ∧ b' < X.heap.size := fun b' hb' => h1.block b' hb'
  have hsz3 := hm.low.size
  have h4 : ∀ b', b' < w3.heap.size → (w3.alloc (.cells #[.pointer (some ⟨g1, 0, none⟩)] 111)).heap[b']? = w3.heap[b']? := fun b' hb' => Below.heap_alloc w3 _ b' hb'
  have h5 : ∀ b', b' < w3.heap.size → v.ownBlock ≠ some b' → w5.heap[b']? = w3.heap[b']? := fun b' hb' hne => (hgrow.block b' (by rw [World.size_alloc]; omega) (fun e => hne e.symm)).trans (h4 b' hb')
  have h6 : ∀ b', b' ≠ g → (w5.setCell ⟨g, 4, none⟩ (.slice (some ⟨b, 0, none⟩) (n + 1) cap)).heap[b']? = w5.heap[b']? := fun b' hb' => Below.heap_setCell w5 ⟨g, 4, none⟩ _ b' hb'
  have hsz5 : w3.heap.size + 1 ≤ w5.heap.size := by have := hgrow.size; rw [World.size_alloc] at this; exact this
  have hqv : v.ownBlock ≠ some q := fun e => by have := hvb q e; omega
  have hgv : v.ownBlock ≠ some g := fun e => by have := hvb g e; omega
  have hW3 : W.heap.size ≤ X.heap.size := h.mv.low.size
  have hb1 : ∀ b', X.heap.size ≤ b' → b' < w3.heap.size → b' ≠ b := fun b' k1 k2 e => by
    rcases hat with e2 | e2
    · have := hvb b e2; omega
    · omega
  -- the parser's state
  have st4 := hp.keep ((Below.refl w3.heap.size w3).alloc zL (.cells #[.pointer (some ⟨g1, 0, none⟩)] 111))
  have bl5 : Below g (w3.alloc (.cells #[.pointer (some ⟨g1, 0, none⟩)] 111)) w5 := zB.grown hgrow (by rw [World.size_alloc]; omega) (fun b' hb' => by have := hvb b' hb'; omega)
  have st5 : PSt q a c sz l j' w5 := st4.mv (bl5.mono (Nat.le_of_lt hg)) (st4.box.below bl5 hg) st4.le
  have mv3 : Mv q W w3 := h'.mv.trans hm
  have mv5 : Mv q W w5 := by
    refine ⟨(mv3.low.trans ((Below.refl w3.heap.size w3).alloc zL _ |>.mono (by have := hp.box.lt; omega))).trans (bl5.mono (Nat.le_of_lt hg)), fun b' k1 k2 => ?_⟩
    rw [h5 b' (by have := mv3.low.size; omega) (fun e => by have := hvb b' e; have := h.lo; omega)]
    exact mv3.high b' k1 k2
  have bx3 : Blk w3 g 135 #[.int .i64 (k : Int), .string (txt s), .int .i64 0, .slice none 0 0, v] := hm.blk h'.box hg
  have bx5 : Blk w5 g 135 #[.int .i64 (k : Int), .string (txt s), .int .i64 0, .slice none 0 0, v] := bx3.keep (h5 g (by omega) hgv)
  refine ⟨mv5.setNew (p := ⟨g, 4, none⟩) _ (Nat.le_of_lt hg) h.lo, st5.setFar (p := ⟨g, 4, none⟩) _ hg, by have := bx5.set_ 4 (.slice (some ⟨b, 0, none⟩) (n + 1) cap); simpa using this, h.lo, h.ql, gs ++ [g1], ?_, ?_⟩
  · refine Own1.stay (w := w5) ⟨_, by rw [List.length_append, hl]; exact hown, ?_⟩ (fun b' hb' _ => h6 b' ?_)
    · rw [hx]
      refine ⟨by simp, fun i y hy => ?_⟩
      have e : (gs.map fun x => Value.pointer (some ⟨x, 0, none⟩)) ++ [Value.pointer (some ⟨g1, 0, none⟩)] = (gs ++ [g1]).map fun x => Value.pointer (some ⟨x, 0, none⟩) := by simp
      rw [e, Nat.mul_one]
      unfold IsPtr
      have hlt := (List.getElem?_eq_some_iff.1 hy).1
      apply List.ext_getElem?
      intro m
      rw [List.getElem?_take]
      rcases m with _ | m
      · simp only [Nat.zero_lt_one, if_true, List.getElem?_drop, Nat.add_zero, List.getElem?_map, hy, Option.map_some]
        rfl
      · simp
    · have : b' = b := by simp [Value.ownBlock] at hb'; exact hb'.symm
      subst this
      rcases hat with e2 | e2
      · have := hvb b' e2; omega
      · omega
  · refine TreesIn.app ?_ ?_
    · have t3 : TreesIn (w5.setCell ⟨g, 4, none⟩ (.slice (some ⟨b, 0, none⟩) (n + 1) cap)) (fun b' => (g + 1 ≤ b' ∧ v.ownBlock ≠ some b') ∧ b' < X.heap.size) ts gs := by
        refine TreesIn.stay (w := X) (fun b' hb' hl => ?_) (h2.imp (fun b' hb' hl => ⟨hb', hl⟩))
        rw [h6 b' (by omega), h5 b' (by omega) hb'.1.2, hm.high b' (by omega) (by omega)]
        obtain ⟨m, rfl⟩ := hd
        rfl
      refine t3.imp (fun b' hb' _ => ⟨hb'.1.1, fun e => ?_⟩)
      have e' : b = b' := by simpa [Value.ownBlock] using e
      subst e'
      rcases hat with e2 | e2
      · exact hb'.1.2 e2
      · omega
    · have t3 : TreeIn (w5.setCell ⟨g, 4, none⟩ (.slice (some ⟨b, 0, none⟩) (n + 1) cap)) (fun b' => X.heap.size ≤ b' ∧ b' < w3.heap.size) t g1 := by
        refine TreeIn.stay (w := w3) (fun b' hb' hl => ?_) (TreeIn.imp (fun b' hb' hl => ⟨hb', hl⟩) ht)
        rw [h6 b' (by omega), h5 b' hl (fun e => by have := hvb b' e; omega)]
      refine t3.imp (fun b' hb' _ => ⟨by omega, fun e => ?_⟩)
      have e' : b = b' := by simpa [Value.ownBlock] using e
      subst e'
      exact hb1 b hb'.1 hb'.2 rfl
end
end Go.Proofs.YtdkoafmgenbkbaaGreatDoor
namespace Go.Proofs.YtdkoafmgenbkbaaGreatDoor
open Go.RowKit
theorem placesL_app : ∀ (A B : List Tr) (p : Nat), placesL (A ++ B) p = placesL A p ++ placesL B (p + sizeL A)
  | [], B, p => by simp [placesL, sizeL]
  | t :: A, B, p => by simp only [List.cons_append, placesL, sizeL, placesL_app A B]; rw [Nat.add_assoc]
theorem flatL_app : ∀ (A B : List Tr) (p : Nat), flatL (A ++ B) p = flatL A p ++ flatL B (p + sizeL A)
  | [], B, p => by simp [flatL, sizeL]
  | t :: A, B, p => by simp only [List.cons_append, flatL, sizeL, flatL_app A B, List.append_assoc]; rw [Nat.add_assoc]
theorem sizeL_app : ∀ (A B : List Tr), sizeL (A ++ B) = sizeL A + sizeL B
  | [], B => by simp [sizeL]
  | t :: A, B => by simp only [List.cons_append, sizeL, sizeL_app A B]; omega
theorem deepL_app : ∀ (A B : List Tr), deepL (A ++ B) = max (deepL A) (deepL B)
  | [], B => by simp [deepL]
  | t :: A, B => by simp only [List.cons_append, deepL, deepL_app A B]; omega
theorem placesL_len : ∀ (l : List Tr) (p : Nat), (placesL l p).length = l.length
  | [], _ => rfl
  | t :: l, p => by simp only [placesL, List.length_cons, placesL_len l]
theorem len_le_size : ∀ (l : List Tr), l.length ≤ sizeL l
  | [] => by simp
  | t :: l => by simp only [List.length_cons, sizeL]; have := len_le_size l; have := size_pos t; omega
theorem take_snoc1 {α : Type} {l : List α} {j : Nat} {x : α} (h : l[j]? = some x) : l.take (j + 1) = l.take j ++ [x] := by
  rw [List.take_add_one, h]; rfl
theorem sizeL_take_le : ∀ (l : List Tr) (j : Nat), sizeL (l.take j) ≤ sizeL l
  | [], _ => by simp [sizeL]
  | t :: l, 0 => by simp [sizeL]
  | t :: l, j + 1 => by simp only [List.take_succ_cons, sizeL]; have := sizeL_take_le l j; omega
theorem size_mem : ∀ {l : List Tr} {t : Tr}, t ∈ l → t.size ≤ sizeL l
  | u :: l, t, h => by
    simp only [sizeL]
    rcases List.mem_cons.1 h with rfl | h
    · omega
    · have := size_mem h; omega
def IsNat : List Value → Nat → Prop := fun x n => x = [.int .i64 (n : Int)]
def IsEN : List Value → EN × Value → Prop := fun x p => x = [.int .i64 (p.1.kind : Int), .string (txt p.1.text), .int .i64 p.1.num, p.2] ∧ ∃ a n c, p.2 = .slice a n c
structure EL (X : World) (B : Nat) (v : Value) (es : List (EN × Value)) : Prop where
  main : Own1 X B 45 4 IsEN v es
  kids : ∀ (i : Nat) (p : EN × Value), es[i]? = some p → Own1 X B 3 1 IsNat p.2 p.1.kids
  apart : ∀ (i j : Nat) (p p' : EN × Value) (b : Nat), i ≠ j → es[i]? = some p → es[j]? = some p' → p.2.ownBlock = some b → p'.2.ownBlock ≠ some b
theorem Own1.ne_block {α β : Type} {w : World} {b b' s s' : Nat} {e e' : TypeId} {R : List Value → α → Prop} {R' : List Value → β → Prop} {v v' : Value} {l : List α} {l' : List β} (h : Own1 w b e s R v l) (h' : Own1 w b' e' s' R' v' l') (hne : e ≠ e') : ∀ g, v.ownBlock = some g → v'.ownBlock ≠ some g := by
  intro g hg hg'
  obtain ⟨xs, h1, _⟩ := h
  obtain ⟨ys, k1, _⟩ := h'
  rcases h1.2 with ⟨rfl, _⟩ | ⟨g1, cap, cur, rfl, r2, r3, _⟩
  · cases hg
  · rcases k1.2 with ⟨rfl, _⟩ | ⟨g2, cap2, cur2, rfl, q2, q3, _⟩
    · cases hg'
    · have e1 : g1 = g := by simpa [Value.ownBlock] using hg
      have e2 : g2 = g := by simpa [Value.ownBlock] using hg'
      subst e1
      subst e2
      rw [r3] at q3
      injection q3 with q3
      injection q3 with _ q3
      exact hne q3
theorem Own1.at00 {α : Type} {w : World} {base size n c : Nat} {e : TypeId} {R : List Value → α → Prop} {l : List α} {a : Option Addr} (h : Own1 w base e size R (.slice a n c) l) (hn : 0 < l.length) (hs : 0 < size) : ∃ g, a = some ⟨g, 0, none⟩ ∧ base ≤ g ∧ g < w.heap.size ∧ (∀ o, w.frozen? ⟨g, o, none⟩ = false) ∧ ∀ (k : Nat) (y : α), l[k]? = some y → ∃ x : List Value, x.length = size ∧ R x y ∧ ∀ (j : Nat) (u : Value), x[j]? = some u → w.cell? ⟨g, k * size + j, none⟩ = some u := by
  have hr := h.read hs
  have hb := h.block
  have hf := h.form
  obtain ⟨xs, h1, h2⟩ := h
  obtain ⟨g, rfl⟩ : ∃ g, a = some ⟨g, 0, none⟩ := by
    rcases h1.2 with ⟨h', h0⟩ | ⟨g', cap', cur, h', _⟩
    · omega
    · injection h' with e1; exact ⟨g', e1⟩
  have hg := hb g rfl
  refine ⟨g, rfl, hg.1, hg.2, fun o => ?_, fun k y hy => ?_⟩
  · obtain ⟨a', c', he⟩ := hf
    injection he with _ e2 e3
    subst e2
    exact h1.frozenAt o
  · obtain ⟨b, off, x, he, _, hx, hR, hc⟩ := hr.at_ hy
    injection he with he
    injection he with e1 e2
    subst e1 e2
    refine ⟨x, hx, hR, fun j u hu => ?_⟩
    have := hc j u hu
    rwa [Nat.zero_add] at this
mutual
theorem deep_le : ∀ (t : Tr), t.deep ≤ t.size
  | .node _ _ _ ks => by simp only [Tr.deep, Tr.size]; have := deepL_le ks; omega
theorem deepL_le : ∀ (l : List Tr), deepL l ≤ sizeL l
  | [] => by simp [deepL]
  | t :: ts => by simp only [deepL, sizeL]; have := deep_le t; have := deepL_le ts; omega
end
theorem TreesIn.get {w : World} {S : Nat → Prop} : ∀ {ts : List Tr} {gs : List Nat} {j : Nat} {t : Tr} {g : Nat}, TreesIn w S ts gs → ts[j]? = some t → gs[j]? = some g → TreeIn w S t g
  | [], _, j, t, g, _, h1, _ => by simp at h1
  | u :: ts, gs, 0, t, g, h, h1, h2 => by
    simp only [TreesIn] at h
    obtain ⟨g', gs', rfl, h3, _⟩ := h
    simp at h1 h2
    subst h1 h2
    exact h3
  | u :: ts, gs, j + 1, t, g, h, h1, h2 => by
    simp only [TreesIn] at h
    obtain ⟨g', gs', rfl, _, h4⟩ := h
    simp only [List.getElem?_cons_succ] at h1 h2
    exact TreesIn.get h4 h1 h2
theorem set_mid {α : Type} (A B : List α) (x y : α) (p : Nat) (h : A.length = p) : (A ++ x :: B).set p y = A ++ y :: B := by
  subst h
  rw [List.set_append_right _ _ zL, Nat.sub_self]
  rfl
theorem get_mid {α : Type} (A B : List α) (x : α) (p : Nat) (h : A.length = p) : (A ++ x :: B)[p]? = some x := by
  subst h
  rw [List.getElem?_append_right zL, Nat.sub_self]
  rfl
theorem wpList_append_list2 {P : Program} {α : Type} {ops : Array Oper} {rest : List Oper} {o : Oper} {a : Act} {Q : Exit → Act → World → Prop} {w : World} (hgd : o.guard = none) (s x : Operand) (t : TypeId)
    (ho : o.op = .call { callee := .builtin .append, args := #[s, x], argTypes := #[t, t] })
    (base B : Nat) (e : TypeId) (i : TypeInfo) (z : Value) (size bytes : Nat) (ht : P.underlying t = some (.slice e)) (hi : P.info? e = some i) (hz : i.zero = some z)
    (hsize : i.size = size) (hby : i.bytes = bytes) (hzs : z.cells.size = size) (hsz : 0 < size) {R : List Value → α → Prop} {l m : List α}
    (v : Value) (hs : a.eval s = v) (hown : Own1 w base e size R v l) (A : Option Addr) (n c : Nat) (hx : a.eval x = .slice A n c) (hsrc : SlR w B size R (.slice A n c) m)
    (N : Nat) (hN : N = l.length + n) (h1 : ∀ x y, R x y → ∀ u ∈ x, u.oneCell' = true) (h63 : l.length + n ≤ maxLen) (hbytes : (l.length + n) * bytes ≤ 140737488355328) (hbase : base ≤ w.heap.size)
    (h : ∀ (a' : Option Addr) (c' : Nat) w', Own1 w' base e size R (.slice a' N c') (l ++ m) → w.grownBy w' v.ownBlock → ((Value.slice a' N c').ownBlock = v.ownBlock ∨ (Value.slice a' N c').ownBlock = some w.heap.size) → wpList P ops Q rest (a.put o.dst (.slice a' N c')) w') : wpList P ops Q (o :: rest) a w := by
  refine wpList_plain hgd fun K hK => ?_
  obtain ⟨v', w', hrun, h2, h3, h4⟩ := run_append_list (P := P) w base B t o.type e i z size bytes ht hi hz hsize hby hzs hsz v hown A n c hsrc h1 h63 hbytes hbase
  unfold Oper.wp execOp
  simp only [ho, resolve, invoke, builtin, Sem.run_bind, Sem.run_pure, Result.andThen_ok, List.map_toArray, List.map_cons, List.map_nil, hs, hx, hrun]
  obtain ⟨a', c', rfl⟩ := h2.form
  have e : (l ++ m).length = N := by rw [hN, List.length_append, hsrc.len]
  rw [e] at h2 h4 ⊢
  exact hK _ _ (h a' c' w' h2 h3 h4)
section
variable {X : World} {B : Nat} {v : Value} {es : List (EN × Value)}
theorem EL.nil (X : World) (B : Nat) : EL X B (.slice none 0 0) [] := ⟨⟨[], ⟨rfl, .inl ⟨rfl, rfl⟩⟩, FlatR.nil_⟩, fun i p h => by simp at h, fun i j p p' b _ h => by simp at h⟩
theorem EL.alloc (h : EL X B v es) (o : Obj) : EL (X.alloc o) B v es := ⟨h.main.alloc o, fun i p hp => (h.kids i p hp).alloc o, h.apart⟩
theorem EL.drewN (h : EL X B v es) (n : Nat) : EL (X.drewN n) B v es := ⟨h.main.drewN n, fun i p hp => (h.kids i p hp).drewN n, h.apart⟩
theorem EL.push (h : EL X B v es) {X' : World} {v' : Value} {e : EN} (he : e.kids = []) (hm : Own1 X' B 45 4 IsEN v' (es ++ [(e, .slice none 0 0)])) (hg : X.grownBy X' v.ownBlock) : EL X' B v' (es ++ [(e, .slice none 0 0)]) := by
  refine ⟨hm, fun i p hp => ?_, fun i j p p' b hij hi hj hb => ?_⟩
  · rcases Nat.lt_or_ge i es.length with hl | hl
    · rw [List.getElem?_append_left hl] at hp
      exact (h.kids i p hp).kept1 h.main (by decide) hg
    · rw [List.getElem?_append_right hl] at hp
      have : i - es.length = 0 := by
        rcases Nat.eq_zero_or_pos (i - es.length) with h0 | h0
        · exact h0
        · rw [List.getElem?_eq_none (by simp; omega)] at hp; cases hp
      rw [this] at hp
      simp at hp
      subst hp
      rw [he]
      exact ⟨[], ⟨rfl, .inl ⟨rfl, rfl⟩⟩, FlatR.nil_⟩
  · have key : ∀ (i : Nat) (p : EN × Value), (es ++ [(e, Value.slice none 0 0)])[i]? = some p → es[i]? = some p ∨ p.2 = .slice none 0 0 := by
      intro i p hp
      rcases Nat.lt_or_ge i es.length with hl | hl
      · rw [List.getElem?_append_left hl] at hp; exact .inl hp
      · rw [List.getElem?_append_right hl] at hp
        have : p ∈ [(e, Value.slice none 0 0)] := List.mem_iff_getElem?.2 ⟨_, hp⟩
        simp at this
        subst this
        exact .inr rfl
    rcases key i p hi with h1 | h1
    · rcases key j p' hj with h2 | h2
      · exact h.apart i j p p' b hij h1 h2 hb
      · rw [h2]; exact fun e => by cases e
    · rw [h1] at hb; cases hb
theorem flat_set3 {xs : List Value} {p : Nat} {e : EN} {kv kv' : Value} {ks : List Nat} (h : FlatR 4 IsEN xs es) (hp : es[p]? = some (e, kv)) (hkv : ∃ a n c, kv' = .slice a n c) : FlatR 4 IsEN (xs.set (p * 4 + 3) kv') (es.set p (⟨e.kind, e.text, e.num, ks⟩, kv')) := by
  have hpl := (List.getElem?_eq_some_iff.1 hp).1
  have hle : p * 4 + 4 ≤ xs.length := by rw [h.1]; omega
  refine ⟨by rw [List.length_set, List.length_set]; exact h.1, fun i y hy => ?_⟩
  by_cases hi : i = p
  · subst hi
    rw [List.getElem?_set_self hpl] at hy
    injection hy with hy
    subst hy
    have h0 := (h.2 i _ hp).1
    refine ⟨?_, hkv⟩
    have e1 : ((xs.set (i * 4 + 3) kv').drop (i * 4)).take 4 = ((xs.drop (i * 4)).take 4).set 3 kv' := by
      apply List.ext_getElem?
      intro m
      rw [List.getElem?_set, List.getElem?_take, List.length_take, List.length_drop]
      split
      · rename_i hm
        rw [List.getElem?_drop, List.getElem?_set]
        by_cases h3 : 3 = m
        · subst h3
          simp only [if_true]
          rw [if_pos (by omega), if_pos (by omega)]
        · rw [if_neg (by omega), if_neg h3, List.getElem?_take_of_lt hm, List.getElem?_drop]
      · rename_i hm
        rw [if_neg (by omega), List.getElem?_take, if_neg hm]
    rw [e1, h0]
    rfl
  · rw [List.getElem?_set_ne (fun e => hi e.symm)] at hy
    have e1 : ((xs.set (p * 4 + 3) kv').drop (i * 4)).take 4 = (xs.drop (i * 4)).take 4 := by
      apply List.ext_getElem?
      intro m
      rw [List.getElem?_take, List.getElem?_take]
      split
      · rw [List.getElem?_drop, List.getElem?_drop, List.getElem?_set_ne (by omega)]
      · rfl
    rw [e1]
    exact h.2 i y hy
theorem EL.kid {n c g p q : Nat} {e : EN} {kv kv' : Value} {X2 : World} (h : EL X B (.slice (some ⟨g, 0, none⟩) n c) es) (hp : es[p]? = some (e, kv)) (hkv : ∃ a n c, kv' = .slice a n c) (o : Obj)
    (hown : Own1 X2 B 3 1 IsNat kv' (e.kids ++ [q])) (hg : (X.alloc o).grownBy X2 kv.ownBlock) (hat : kv'.ownBlock = kv.ownBlock ∨ kv'.ownBlock = some (X.heap.size + 1)) :
    EL (X2.setCell ⟨g, p * 4 + 3, none⟩ kv') B (.slice (some ⟨g, 0, none⟩) n c) (es.set p (⟨e.kind, e.text, e.num, e.kids ++ [q]⟩, kv')) := by
  have h1 := h.alloc o
  have hpl := (List.getElem?_eq_some_iff.1 hp).1
  have m2 : Own1 X2 B 45 4 IsEN (.slice (some ⟨g, 0, none⟩) n c) es := h1.main.kept1 (h1.kids p _ hp) (by decide) hg
  have hnl : n = es.length := by obtain ⟨a', c', he⟩ := m2.form; injection he
  have kk : ∀ (i : Nat) (x : EN × Value), i ≠ p → es[i]? = some x → Own1 X2 B 3 1 IsNat x.2 x.1.kids := fun i x hi hx => (h1.kids i x hx).stay (fun b hb hl => hg.block b hl (fun e' => h.apart i p x _ b hi hx hp hb e'.symm))
  have far : ∀ {v1 : Value} {l1 : List Nat}, Own1 X2 B 3 1 IsNat v1 l1 → Own1 (X2.setCell ⟨g, p * 4 + 3, none⟩ kv') B 3 1 IsNat v1 l1 := fun ho => ho.stay (fun b hb _ => Below.heap_setCell X2 ⟨g, p * 4 + 3, none⟩ kv' b (fun e' => m2.ne_block ho (by decide) g rfl (by rw [hb]; exact congrArg some e')))
  refine ⟨?_, fun i x hx => ?_, fun i j x x' b hij hi hj hb => ?_⟩
  · obtain ⟨xs, k1, k2⟩ := m2
    subst hnl
    exact ⟨_, by rw [List.length_set]; exact (k1.stored (p * 4 + 3) kv').1, flat_set3 k2 hp hkv⟩
  · by_cases hi : i = p
    · subst hi
      rw [List.getElem?_set_self hpl] at hx
      injection hx with hx
      subst hx
      exact far hown
    · rw [List.getElem?_set_ne (fun e' => hi e'.symm)] at hx
      exact far (kk i x hi hx)
  · have old : ∀ (i : Nat) (x : EN × Value) (b : Nat), es[i]? = some x → x.2.ownBlock = some b → b < X.heap.size := fun i x b hx hb => ((h.kids i x hx).block b hb).2
    by_cases hip : i = p
    · subst hip
      rw [List.getElem?_set_self hpl] at hi
      injection hi with hi
      subst hi
      rw [List.getElem?_set_ne hij] at hj
      intro e'
      have hb' : kv'.ownBlock = some b := hb
      rcases hat with h2 | h2
      · exact h.apart i j _ _ b hij hp hj (by rw [← h2]; exact hb') e'
      · rw [h2] at hb'
        injection hb' with hb'
        have := old j x' b hj e'
        omega
    · rw [List.getElem?_set_ne (fun e' => hip e'.symm)] at hi
      by_cases hjp : j = p
      · subst hjp
        rw [List.getElem?_set_self hpl] at hj
        injection hj with hj
        subst hj
        intro e'
        have hb' : kv'.ownBlock = some b := e'
        rcases hat with h2 | h2
        · exact h.apart i j _ _ b hij hi hp hb (by rw [← h2]; exact hb')
        · rw [h2] at hb'
          injection hb' with hb'
          have := old i x b hi hb
          omega
      · rw [List.getElem?_set_ne (fun e' => hjp e'.symm)] at hj
        exact h.apart i j x x' b hij hi hj hb
end
end Go.Proofs.YtdkoafmgenbkbaaGreatDoor
namespace Go.Proofs.YtdkoafmgenbkbaaGreatDoor
open Go.RowKit
structure Bx (w : World) (B : Nat) (v : Value) (at_ err : Int) : Prop where
  e : Blk w B 37 #[v]
  at_ : Blk w (B + 1) 3 #[.int .i64 at_]
  err : Blk w (B + 2) 26 #[.int .i64 err]
theorem Bx.below {w w' : World} {B : Nat} {v : Value} {a e : Int} (h : Bx w B v a e) {C : Nat} (hb : Below C w w') (hC : B + 2 < C) : Bx w' B v a e :=
  ⟨h.e.below hb (by omega), h.at_.below hb (by omega), h.err.below hb hC⟩
theorem Bx.new (w : World) : Bx (((w.alloc (.cells #[.slice none 0 0] 37)).alloc (.cells #[.int .i64 0] 3)).alloc (.cells #[.int .i64 0] 26)) w.heap.size (.slice none 0 0) 0 0 :=
  ⟨((Blk.new _ _ _).alloc _).alloc _, (Blk.new_ (by simp) _ _).alloc _, Blk.new_ (by simp) _ _⟩
theorem Bx.cells {w : World} {B : Nat} {v : Value} {a e : Int} (h : Bx w B v a e) : w.cell? ⟨B, 0, none⟩ = some v ∧ w.cell? ⟨B + 1, 0, none⟩ = some (.int .i64 a) ∧ w.cell? ⟨B + 2, 0, none⟩ = some (.int .i64 e) ∧ w.frozen? ⟨B, 0, none⟩ = false ∧ w.frozen? ⟨B + 1, 0, none⟩ = false ∧ w.frozen? ⟨B + 2, 0, none⟩ = false ∧ B + 2 < w.heap.size :=
  ⟨h.e.cell rfl, h.at_.cell rfl, h.err.cell rfl, h.e.frozen 0, h.at_.frozen 0, h.err.frozen 0, h.err.lt⟩
theorem Bx.set {w : World} {B : Nat} {v : Value} {a e : Int} (h : Bx w B v a e) (v' : Value) (a' e' : Int) : Bx (((w.setCell ⟨B, 0, none⟩ v').setCell ⟨B + 1, 0, none⟩ (.int .i64 a')).setCell ⟨B + 2, 0, none⟩ (.int .i64 e')) B v' a' e' ∧ Below B w (((w.setCell ⟨B, 0, none⟩ v').setCell ⟨B + 1, 0, none⟩ (.int .i64 a')).setCell ⟨B + 2, 0, none⟩ (.int .i64 e')) :=
  ⟨⟨by have := ((h.e.set_ 0 v').far (p := ⟨B + 1, 0, none⟩) (by show B ≠ B + 1; omega) (.int .i64 a')).far (p := ⟨B + 2, 0, none⟩) (by show B ≠ B + 2; omega) (.int .i64 e'); simpa using this,
    by have := ((h.at_.far (p := ⟨B, 0, none⟩) (by show B + 1 ≠ B; omega) v').set_ 0 (.int .i64 a')).far (p := ⟨B + 2, 0, none⟩) (by show B + 1 ≠ B + 2; omega) (.int .i64 e'); simpa using this,
    by have := ((h.err.far (p := ⟨B, 0, none⟩) (by show B + 2 ≠ B; omega) v').far (p := ⟨B + 1, 0, none⟩) (by show B + 2 ≠ B + 1; omega) (.int .i64 a')).set_ 0 (.int .i64 e'); simpa using this⟩,
   (((Below.refl B w).setCell (p := ⟨B, 0, none⟩) (Nat.le_refl B) _).setCell (p := ⟨B + 1, 0, none⟩) (Nat.le_succ B) _).setCell (p := ⟨B + 2, 0, none⟩) (by show B ≤ B + 2; omega) _⟩
theorem Bx.set2 {w : World} {B : Nat} {v : Value} {a e : Int} (h : Bx w B v a e) (a' e' : Int) : Bx ((w.setCell ⟨B + 1, 0, none⟩ (.int .i64 a')).setCell ⟨B + 2, 0, none⟩ (.int .i64 e')) B v a' e' ∧ Below B w ((w.setCell ⟨B + 1, 0, none⟩ (.int .i64 a')).setCell ⟨B + 2, 0, none⟩ (.int .i64 e')) :=
  ⟨⟨by have := (h.e.far (p := ⟨B + 1, 0, none⟩) (by show B ≠ B + 1; omega) (.int .i64 a')).far (p := ⟨B + 2, 0, none⟩) (by show B ≠ B + 2; omega) (.int .i64 e'); simpa using this,
    by have := (h.at_.set_ 0 (.int .i64 a')).far (p := ⟨B + 2, 0, none⟩) (by show B + 1 ≠ B + 2; omega) (.int .i64 e'); simpa using this,
    by have := (h.err.far (p := ⟨B + 1, 0, none⟩) (by show B + 2 ≠ B + 1; omega) (.int .i64 a')).set_ 0 (.int .i64 e'); simpa using this⟩,
   ((Below.refl B w).setCell (p := ⟨B + 1, 0, none⟩) (Nat.le_succ B) _).setCell (p := ⟨B + 2, 0, none⟩) (by show B ≤ B + 2; omega) _⟩
theorem catch_wrong (B : Nat) (k a0 e0 : Int) (older : List PanicEntry) (w : World) (v : Value) (hv : ∃ a n c, v = .slice a n c) (hb : Bx w B v a0 e0) :
    CallsD Tryz.prog 50 #[.pointer (some ⟨B, 0, none⟩), .pointer (some ⟨B + 1, 0, none⟩), .pointer (some ⟨B + 2, 0, none⟩)] (.panicking ({ v := .iface 106 (.agg #[.int .i64 k]), recovered := false } :: older)) w fun e u' w' =>
      e = .returned (.tuple #[]) ∧ u' = .panicking ({ v := .iface 106 (.agg #[.int .i64 k]), recovered := true } :: older) ∧ Below B w w' ∧ Bx w' B (.slice none 0 0) k 80 := by
  obtain ⟨q0, q1, q2, f0, f1, f2, lg⟩ := hb.cells
  have l0 : B < w.heap.size := by omega
  have l1 : B + 1 < w.heap.size := by omega
  have Hb := zH hb
  clear hb
  have has : ∀ (v : Value) (W : World), (Instr.typeAssert (.iface 106 v) 20 106 true).run Tryz.prog W = .ok (.tuple #[v, .bool true]) W := by intros; kernel_rfl
  refine callsD_of_wpS Tryz.func50 rfl fun c₀ cs hu => ?_
  simp only [Tryz.ntmps50, List.size_toArray, List.length_cons, List.length_nil, Nat.reduceAdd, Nat.reduceSub, Array.replicate_succ, Array.replicate_zero, List.push_toArray, List.append_toArray, List.nil_append, List.cons_append]
  apply wpS_seq
  apply wpS_region
  simp [wpOpsS, go_sem, recoverD, hu, Exit.thenS]
  refine wpS_of_wp ?_
  obtain ⟨va, vn, vc, rfl⟩ := hv
  go_wp2_with fail
  go_region
  all_goals
    have HK := Hb.out.set (.slice none 0 0) k 80
    have h1 : Below B w ((((w.setCell ⟨B, 0, none⟩ (.slice none 0 0)).setCell ⟨B + 1, 0, none⟩ (.int .i64 k)).setCell ⟨B + 2, 0, none⟩ (.int .i64 80)).alloc (.cells #[.int .i64 k] 106)).drew := (HK.2.alloc (Nat.le_of_lt (Nat.lt_of_lt_of_le l0 HK.2.size)) _).drew
    have h2 : Bx ((((w.setCell ⟨B, 0, none⟩ (.slice none 0 0)).setCell ⟨B + 1, 0, none⟩ (.int .i64 k)).setCell ⟨B + 2, 0, none⟩ (.int .i64 80)).alloc (.cells #[.int .i64 k] 106)).drew B (.slice none 0 0) k 80 := HK.1.below (zB.alloc zL _).drew HK.1.err.lt
    have h3 := And.intro h1 h2
    clear h1 h2 HK
    generalize World.drew _ = wz at h3 ⊢
    clear q0 q1 q2 f0 f1 f2 lg l0 l1 Hb has
    obtain ⟨k1, k2, k3, k4, k5, k6, k7⟩ := c₀
    simp (config := { zetaDelta := true }) [bodyPostS, results, Tryz.results50]
    exact h3
theorem catch_idle (a b c : Value) (w : World) :
    CallsD Tryz.prog 50 #[a, b, c] .returning w fun e u' w' => e = .returned (.tuple #[]) ∧ u' = .returning ∧ w' = w := by
  refine callsD_of_wpS Tryz.func50 rfl fun c₀ cs hu => ?_
  simp only [Tryz.ntmps50, List.size_toArray, List.length_cons, List.length_nil, Nat.reduceAdd, Nat.reduceSub, Array.replicate_succ, Array.replicate_zero, List.push_toArray, List.append_toArray, List.nil_append, List.cons_append]
  apply wpS_seq
  apply wpS_region
  simp [wpOpsS, go_sem, recoverD, hu, Exit.thenS]
  refine wpS_of_wp ?_
  go_wp2_with fail
  cases c₀
  simp_all [bodyPostS, results, Tryz.results50]
end Go.Proofs.YtdkoafmgenbkbaaGreatDoor
namespace Go.Proofs.YtdkoafmgenbkbaaGreatDoor
open Go.RowKit
section
variable {q : Nat} {a : Option Addr} {c sz : Nat} {l : List Tok} {i : Nat} {W : World}
def markR (l : List Tok) (f i : Nat) (s : List Nat) : PR :=
  if s = minusT then (match l[i + 1]? with
    | some x => if x.kind = 1 then .ok (.node 1 [] (-x.num) []) (i + 2) else .no (i + 1)
    | none => .no (i + 1))
  else if s = openT then (pL l f 1 (i + 1)).bind fun k j => want l j closeT (.ok k (j + 1))
  else .no i
theorem isT_at {t : Tok} (ht : l[i]? = some t) (s : List Nat) : isT l i s = (decide (4 ≤ t.kind) && decide (t.text = s)) := by unfold isT; rw [ht]
theorem p_mark {t : Tok} (ht : l[i]? = some t) (hk : t.kind = 5) (f : Nat) (HO : LevelC q a c sz l 51 (fun i => pL l f 1 i)) (h : PSt q a c sz l i W) (hr : markR l f i t.text ≠ .out) :
    Calls Tryz.prog 120 #[.pointer (some ⟨q, 0, none⟩)] W (Reads q a c sz l W (markR l f i t.text)) := by
  have H := zH h
  have QL := zH h.box.lt
  have hlt := (List.getElem?_eq_some_iff.1 ht).1
  have hfew := h.few
  have hb : isT l i minusT = decide (t.text = minusT) := by rw [isT_at ht, hk]; rfl
  have hb2 : isT l i openT = decide (t.text = openT) := by rw [isT_at ht, hk]; rfl
  have hnx : (txt minusT) = ⟨#[45]⟩ := by decide
  have hno : (txt openT) = ⟨#[40]⟩ := by decide
  have hnc : (txt closeT) = ⟨#[41]⟩ := by decide
  obtain ⟨tt, htt⟩ : ∃ k, t.text = k := ⟨_, rfl⟩
  rw [htt] at hr hb hb2 ⊢
  unfold markR at hr ⊢
  by_cases hm : tt = minusT
  · rw [if_pos hm] at hr ⊢
    rw [decide_eq_true hm] at hb
    have HX := zH (p_next minusT (show ∀ n ∈ minusT, n < 256 by decide) true hb h)
    rw [hnx] at HX
    have ST := zH (fun n => h.step (j := i + 1) (u := .int .i64 ((i : Int) + 1)) (by go_num) hlt n)
    obtain ⟨f0, f1, f2, f3, f4⟩ := h.facts
    have i5 : (i : Int) ≤ 5000 := by omega
    have i0 : (0 : Int) ≤ (i : Int) := Int.natCast_nonneg _
    have i00 : (0 : Int) ≤ (i : Int) + 1 := by omega
    obtain ⟨n, hn⟩ : ∃ n, l.length = n := ⟨_, rfl⟩
    have Hn := zH hn
    rw [hn] at f0 hlt hfew
    have n63 : n ≤ 9223372036854775807 := by omega
    by_cases hx : i + 1 < n
    · obtain ⟨x, hx1⟩ := get_some hn hx
      rw [hx1] at hr ⊢
      simp only at hr ⊢
      have HT := zH hx1
      have hg := h.good x (List.mem_iff_getElem?.2 ⟨_, hx1⟩)
      by_cases hk1 : x.kind = 1
      · rw [if_pos hk1] at hr ⊢
        have hnum : 0 ≤ x.num := by unfold TokG at hg; omega
        obtain ⟨xv, hxv⟩ : ∃ k, x.num = k := ⟨_, rfl⟩
        have HV := zH hxv
        rw [hxv] at hnum ⊢
        have dlt : ((i : Int) + 1 == (n : Int)) = false := by simp; omega
        have dlt2 : (i : Int) + 1 < (n : Int) := by omega
        have HK := zH hk1
        clear h ht hk hfew hb hb2 hnx hno hnc htt hm hn hx1 hg hr hk1 hxv
        go_enter Tryz.func120, Tryz.ntmps120
        go_wp2_with (first
          | (go_at_call 100; (with_reducible refine HX.out.mono ?_); rintro e w1 ⟨rfl, nq, rfl⟩))
        have hS1 := ST.out nq
        generalize hwq : World.setCell _ _ _ = W1
        rw [hwq] at hS1
        clear hwq f0 f1 f2 f3 f4
        have M1 := zH hS1.1
        have P1 := zH hS1.2
        obtain ⟨g0, g1, g2, g3, g4⟩ := hS1.2.facts
        rw [Hn.out] at g0
        have g1' : W1.cell? ⟨q, 1, none⟩ = some (.int .i64 ((i : Int) + 1)) := g1
        clear g1 hS1
        obtain ⟨b1, o1, e1, t0, t1, t2, _, hok⟩ := P1.out.tok HT.out
        subst e1
        rw [HK.out] at t0
        rw [HV.out] at t2
        have hxr := hok.2.2.2.1
        rw [HV.out] at hxr
        clear hok t1
        go_quiet (fail)
        go_wp2_with fail
        generalize hwq2 : World.setCell _ _ _ = W2
        have hS2 : Mv q W1 W2 ∧ PSt q (some ⟨b1, o1, none⟩) c sz l (i + 2) W2 := by rw [← hwq2]; exact P1.out.step (j := i + 2) (by go_num) (by rw [Hn.out]; omega) _
        clear hwq2 g0 g2 g3 g4 g1' t0 t2
        have M2 := zH hS2.1
        have P2 := zH hS2.2
        obtain ⟨v0, v1, v2, v3, v4⟩ := hS2.2.facts
        rw [Hn.out] at v0
        have v1' : W2.cell? ⟨q, 1, none⟩ = some (.int .i64 ((i : Int) + 2)) := v1
        obtain ⟨b2, o2, e2, _, _, t2, _, _⟩ := hS2.2.tok HT.out
        injection e2 with e2
        injection e2 with e2 e3
        subst e2 e3
        rw [HV.out] at t2
        have ws : IntKind.i64.wrap ((i : Int) + 2 - 1) = (i : Int) + 1 := by rw [IntKind.wrap_i64]; omega
        have hx63 : xv ≤ 9223372036854775807 := by
          have h2 := hxr
          unfold Lit.wf at h2
          rw [Bool.and_eq_true] at h2
          have h3 := of_decide_eq_true h2.2
          have h4 : IntKind.max .i64 = 9223372036854775807 := by decide
          omega
        have wn : IntKind.i64.wrap (-xv) = -xv := by rw [IntKind.wrap_i64]; omega
        clear v1 v2 v3 v4 hS2 hxr
        go_still_tail 15, (by kernel_rfl)
        change wpList _ _ _ _ _ W2.drew
        go_wp2_with fail
        go_ret
        have hbN := ((Below.refl W2.heap.size W2).alloc zL (.cells #[.int .i64 1, .string ⟨#[]⟩, .int .i64 (-xv), .slice none 0 0, .slice none 0 0] 135)).drew
        exact Reads.mk_ (node0 (k := 1) (s := []) (Nat.le_trans M1.out.low.size M2.out.low.size) (Blk.new W2 135 #[.int .i64 1, .string ⟨#[]⟩, .int .i64 (-xv), .slice none 0 0, .slice none 0 0])) ((M1.out.trans M2.out).trans (Mv.of_below hbN (Nat.le_of_lt P2.out.box.lt))) (P2.out.keep hbN)
      · rw [if_neg hk1] at hr ⊢
        have dlt : ((i : Int) + 1 == (n : Int)) = false := by simp; omega
        have dlt2 : (i : Int) + 1 < (n : Int) := by omega
        obtain ⟨kd, hkd⟩ : ∃ k, x.kind = k := ⟨_, rfl⟩
        have HK := zH hkd
        rw [hkd] at hk1
        have d1 : (kd != 1) = true := by simpa using hk1
        clear h ht hk hfew hb hb2 hnx hno hnc htt hm hn hx1 hg hr hk1 hkd
        go_enter Tryz.func120, Tryz.ntmps120
        go_wp2_with (first
          | (go_at_call 100; (with_reducible refine HX.out.mono ?_); rintro e w1 ⟨rfl, nq, rfl⟩))
        have hS1 := ST.out nq
        generalize hwq : World.setCell _ _ _ = W1
        rw [hwq] at hS1
        clear hwq f0 f1 f2 f3 f4
        have M1 := zH hS1.1
        have P1 := zH hS1.2
        obtain ⟨g0, g1, g2, g3, g4⟩ := hS1.2.facts
        rw [Hn.out] at g0
        have g1' : W1.cell? ⟨q, 1, none⟩ = some (.int .i64 ((i : Int) + 1)) := g1
        clear g1 hS1
        obtain ⟨b1, o1, e1, t0, t1, t2, _, hok⟩ := P1.out.tok HT.out
        subst e1
        rw [HK.out] at t0
        clear hok t1 t2
        go_quiet (fail)
        go_wp2_with (first
          | (go_at_call 52; (refine (p_give (P1.out.quiet ⟨_, rfl⟩)).mono ?_); rintro e w2 ⟨rfl, q2⟩; have Q2 := zH q2; clear q2))
        exact ⟨rfl, rfl, M1.out.trans ((Mv.quiet ⟨_, rfl⟩).trans (Mv.quiet Q2.out))⟩
    · have hnone : l[i + 1]? = none := List.getElem?_eq_none (by omega)
      rw [hnone] at hr ⊢
      simp only at hr ⊢
      obtain rfl : n = i + 1 := by omega
      have dlt : ((i : Int) + 1 == ((i + 1 : Nat) : Int)) = true := by simp
      clear h ht hk hfew hb hb2 hnx hno hnc htt hm hn hr hnone hx
      go_enter Tryz.func120, Tryz.ntmps120
      go_wp2_with (first
        | (go_at_call 100; (with_reducible refine HX.out.mono ?_); rintro e w1 ⟨rfl, nq, rfl⟩))
      have hS1 := ST.out nq
      generalize hwq : World.setCell _ _ _ = W1
      rw [hwq] at hS1
      clear hwq f0 f1 f2 f3 f4
      have M1 := zH hS1.1
      have P1 := zH hS1.2
      obtain ⟨g0, g1, g2, g3, g4⟩ := hS1.2.facts
      rw [Hn.out] at g0
      have g1' : W1.cell? ⟨q, 1, none⟩ = some (.int .i64 ((i : Int) + 1)) := g1
      clear g1 hS1
      go_quiet (fail)
      go_wp2_with (first
        | (go_at_call 52; (refine (p_give (P1.out.quiet ⟨_, rfl⟩)).mono ?_); rintro e w2 ⟨rfl, q2⟩; have Q2 := zH q2; clear q2))
      exact ⟨rfl, rfl, M1.out.trans ((Mv.quiet ⟨_, rfl⟩).trans (Mv.quiet Q2.out))⟩
  · rw [if_neg hm] at hr ⊢
    rw [decide_eq_false hm] at hb
    have HX := zH (p_next minusT (show ∀ n ∈ minusT, n < 256 by decide) false hb h)
    rw [hnx] at HX
    by_cases ho : tt = openT
    · rw [if_pos ho] at hr ⊢
      rw [decide_eq_true ho] at hb2
      have HA : Hid (∀ X, Quiet W X → Calls Tryz.prog 122 #[.pointer (some ⟨q, 0, none⟩), .string ⟨#[40]⟩] X fun e w' => e = .returned (.tuple #[]) ∧ Mv q X w' ∧ PSt q a c sz l (i + 1) w') := zH (fun X hX => by rw [← hno]; exact p_want_yes openT (show ∀ n ∈ openT, n < 256 by decide) hb2 (h.quiet hX))
      obtain ⟨r, hrr⟩ : ∃ r, pL l f 1 (i + 1) = r := ⟨_, rfl⟩
      have hne : r ≠ .out := fun e => hr (by rw [hrr, e]; rfl)
      have HC1 : Hid (∀ X, PSt q a c sz l (i + 1) X → Calls Tryz.prog 51 #[.pointer (some ⟨q, 0, none⟩)] X (Reads q a c sz l X r)) := zH (fun X hX => by rw [← hrr]; exact HO (i + 1) X hX (by show pL l f 1 (i + 1) ≠ .out; rw [hrr]; exact hne))
      rw [hrr]
      have tokA : True := trivial
      cases r with
      | out => exact absurd rfl hne
      | no j =>
        clear HO h ht hk hfew hb hb2 hnx hno hnc htt hm ho hr hlt hrr hne
        go_enter Tryz.func120, Tryz.ntmps120
        go_wp2_with (first
          | (go_at_call 100; (with_reducible refine HX.out.mono ?_); rintro e w1 ⟨rfl, nq, rfl⟩; have Q1 : Hid (Quiet W (W.drewN nq)) := zH ⟨nq, rfl⟩)
          | (go_at_call 122; have _t := tokA; refine (HA.out _ Q1.out).mono ?_; rintro e w2 ⟨rfl, h2, h3⟩; have M2 := zH h2; have P2 := zH h3; clear h2 h3 tokA _t)
          | (go_at_call 51; refine (HC1.out _ P2.out).mono ?_; rintro e w3 ⟨rfl, h2⟩; have M3 := zH h2; clear h2))
        exact ⟨rfl, rfl, (Mv.quiet Q1.out).trans (M2.out.trans M3.out)⟩
      | ok k j =>
        show Calls _ _ _ _ (Reads q a c sz l W (want l j closeT (.ok k (j + 1))))
        unfold want
        obtain ⟨b, hb3⟩ : ∃ b, isT l j closeT = b := ⟨_, rfl⟩
        cases b with
        | true =>
          rw [hb3, if_pos rfl]
          have HB : Hid (∀ X, PSt q a c sz l j X → Calls Tryz.prog 122 #[.pointer (some ⟨q, 0, none⟩), .string ⟨#[41]⟩] X fun e w' => e = .returned (.tuple #[]) ∧ Mv q X w' ∧ PSt q a c sz l (j + 1) w') := zH (fun X hX => by rw [← hnc]; exact p_want_yes closeT (show ∀ n ∈ closeT, n < 256 by decide) hb3 hX)
          clear HO h ht hk hfew hb hb2 hnx hno hnc htt hm ho hr hlt hrr hne hb3
          go_enter Tryz.func120, Tryz.ntmps120
          go_wp2_with (first
            | (go_at_call 100; (with_reducible refine HX.out.mono ?_); rintro e w1 ⟨rfl, nq, rfl⟩; have Q1 : Hid (Quiet W (W.drewN nq)) := zH ⟨nq, rfl⟩)
            | (go_at_call 122; have _t := tokA; refine (HA.out _ Q1.out).mono ?_; rintro e w2 ⟨rfl, h2, h3⟩; have M2 := zH h2; have P2 := zH h3; clear h2 h3 tokA _t)
            | (go_at_call 51; refine (HC1.out _ P2.out).mono ?_; rintro e w3 h2; obtain ⟨g, rfl, h3, h4, h5⟩ := h2.get; have T3 := zH h3; have M3 := zH h4; have P3 := zH h5; clear h2 h3 h4 h5)
            | (go_at_call 122; refine (HB.out _ P3.out).mono ?_; rintro e w4 ⟨rfl, h2, h3⟩; have M4 := zH h2; have P4 := zH h3; clear h2 h3))
          go_ret
          have q2 : q < w2.heap.size := P2.out.box.lt
          exact Reads.back ((Mv.quiet Q1.out).trans M2.out) (Reads.mk_ (T3.out.high (High.of_mv M4.out q2)) (M3.out.trans M4.out) P4.out)
        | false =>
          rw [hb3, if_neg (by simp)]
          have HB : Hid (∀ X, PSt q a c sz l j X → Calls Tryz.prog 122 #[.pointer (some ⟨q, 0, none⟩), .string ⟨#[41]⟩] X fun e w' => e = .panicked (thrownE (placeAt l sz j)) ∧ Quiet X w') := zH (fun X hX => by rw [← hnc]; exact p_want_no closeT (show ∀ n ∈ closeT, n < 256 by decide) hb3 hX)
          clear HO h ht hk hfew hb hb2 hnx hno hnc htt hm ho hr hlt hrr hne hb3
          go_enter Tryz.func120, Tryz.ntmps120
          go_wp2_with (first
            | (go_at_call 100; (with_reducible refine HX.out.mono ?_); rintro e w1 ⟨rfl, nq, rfl⟩; have Q1 : Hid (Quiet W (W.drewN nq)) := zH ⟨nq, rfl⟩)
            | (go_at_call 122; have _t := tokA; refine (HA.out _ Q1.out).mono ?_; rintro e w2 ⟨rfl, h2, h3⟩; have M2 := zH h2; have P2 := zH h3; clear h2 h3 tokA _t)
            | (go_at_call 51; refine (HC1.out _ P2.out).mono ?_; rintro e w3 h2; obtain ⟨g, rfl, h3, h4, h5⟩ := h2.get; have T3 := zH h3; have M3 := zH h4; have P3 := zH h5; clear h2 h3 h4 h5)
            | (go_at_call 122; refine (HB.out _ P3.out).mono ?_; rintro e w4 ⟨rfl, h2⟩; have M4 := zH h2; clear h2))
          exact ⟨rfl, rfl, (Mv.quiet Q1.out).trans (M2.out.trans (M3.out.trans (Mv.quiet M4.out)))⟩
    · rw [if_neg ho] at hr ⊢
      rw [decide_eq_false ho] at hb2
      have HA : Hid (∀ X, Quiet W X → Calls Tryz.prog 122 #[.pointer (some ⟨q, 0, none⟩), .string ⟨#[40]⟩] X fun e w' => e = .panicked (thrownE (placeAt l sz i)) ∧ Quiet X w') := zH (fun X hX => by rw [← hno]; exact p_want_no openT (show ∀ n ∈ openT, n < 256 by decide) hb2 (h.quiet hX))
      clear HO h ht hk hfew hb hb2 hnx hno hnc htt hm ho hr hlt
      go_enter Tryz.func120, Tryz.ntmps120
      go_wp2_with (first
        | (go_at_call 100; (with_reducible refine HX.out.mono ?_); rintro e w1 ⟨rfl, nq, rfl⟩; have Q1 : Hid (Quiet W (W.drewN nq)) := zH ⟨nq, rfl⟩)
        | (go_at_call 122; refine (HA.out _ Q1.out).mono ?_; rintro e w2 ⟨rfl, h2⟩; have M2 := zH h2; clear h2))
      exact ⟨rfl, rfl, (Mv.quiet Q1.out).trans (Mv.quiet M2.out)⟩
end
end Go.Proofs.YtdkoafmgenbkbaaGreatDoor
namespace Go.Proofs.YtdkoafmgenbkbaaGreatDoor
open Go.RowKit
theorem info_enode : (Tryz.prog.info? 45).map (fun i => (i.zero, i.size, i.bytes)) = some (some (.agg #[.int .i64 0, .string .empty, .int .i64 0, .slice none 0 0]), 4, 56) := by kernel_rfl
theorem info_int : (Tryz.prog.info? 3).map (fun i => (i.zero, i.size, i.bytes)) = some (some (.int .i64 0), 1, 8) := by kernel_rfl
theorem IsEN.one : ∀ x y, IsEN x y → ∀ u ∈ x, u.oneCell' = true := by
  intro x y h u hu
  obtain ⟨rfl, a, n, c, h2⟩ := h
  rw [h2] at hu
  simp at hu
  rcases hu with rfl | rfl | rfl | rfl <;> rfl
theorem IsNat.one : ∀ x y, IsNat x y → ∀ u ∈ x, u.oneCell' = true := by
  intro x y h u hu
  unfold IsNat at h
  subst h
  simp at hu
  subst hu
  rfl
def FlatIs (B : Nat) (X : World) (t : Tr) (es : List (EN × Value)) (e : Ending) (w' : World) : Prop :=
  ∃ (v' : Value) (es' : List (EN × Value)), e = .returned (.tuple #[v', .int .i64 (t.deep : Int)]) ∧ EL w' B v' (es ++ es') ∧ es'.map (·.1) = t.flat es.length ∧ Below B X w'
theorem p_flat (lo : Nat) (W0 : World) : ∀ (N : Nat) (t : Tr) (g : Nat) (X : World) (v : Value) (es : List (EN × Value)), t.size ≤ N → TreeAt W0 lo t g → Below W0.heap.size W0 X → EL X W0.heap.size v es → es.length + t.size ≤ 5000 →
    Calls Tryz.prog 53 #[.pointer (some ⟨g, 0, none⟩), v] X (FlatIs W0.heap.size X t es) := by
  intro N
  induction N with
  | zero => intro t g X v es h; have := size_pos t; omega
  | succ N ih =>
  intro t g X v es hN ht hX hE hsz
  obtain ⟨kd, s, nm, ks⟩ := t
  simp only [TreeAt, TreeIn] at ht
  obtain ⟨_, kv, gs, hbox, hrow, _, htr⟩ := ht
  have hszk : sizeL ks ≤ N := by simp only [Tr.size] at hN; omega
  simp only [Tr.size] at hsz
  obtain ⟨a, c, rfl⟩ := hE.main.form
  obtain ⟨p, hp⟩ : ∃ p, es.length = p := ⟨_, rfl⟩
  obtain ⟨ka, kc, rfl⟩ := hrow.form
  obtain ⟨m, hm⟩ : ∃ m, gs.length = m := ⟨_, rfl⟩
  have hmk : ks.length = m := by rw [← hm]; exact (TreesIn.len htr).symm
  have b0 : Blk X g 135 _ := hbox.below hX hbox.lt
  have c0 : X.cell? ⟨g, 0, none⟩ = some (.int .i64 (kd : Int)) := b0.cell rfl
  have c1 : X.cell? ⟨g, 1, none⟩ = some (.string (txt s)) := b0.cell rfl
  have c2 : X.cell? ⟨g, 2, none⟩ = some (.int .i64 nm) := b0.cell rfl
  have c3 : X.cell? ⟨g, 3, none⟩ = some (.slice none 0 0) := b0.cell rfl
  have lg : g < W0.heap.size := hbox.lt
  have HBX := zH hbox
  have HIH := zH ih
  have HX := zH hX
  have HEM : Hid (EL X W0.heap.size (.slice a p c) es) := zH (by rw [← hp]; exact hE)
  have HE := zH hE
  have HROW := zH (hrow.read (by omega))
  have HTR := zH htr
  have Hp := zH hp
  have Hm := zH hm
  have Hmk := zH hmk
  rw [hp] at hsz ⊢
  rw [hm] at HROW HBX
  have m63 : m ≤ 9223372036854775807 := by have := HROW.out.caps; unfold maxLen at this; omega
  have p5 : (p : Int) ≤ 5000 := by omega
  obtain ⟨jE, hi, hz, hs2, hby⟩ := info_parts info_enode
  have IE := zH (And.intro hi (And.intro hz (And.intro hs2 hby)))
  clear hi hz hs2 hby
  obtain ⟨jI, hi, hz, hs2, hby⟩ := info_parts info_int
  have II := zH (And.intro hi (And.intro hz (And.intro hs2 hby)))
  clear hi hz hs2 hby ih hX hE hrow htr hp hm hmk hbox b0 hN
  go_enter Tryz.func53, Tryz.ntmps53
  go_wp2_with (first
    | (at_builtin; refine wpList_append_list rfl (.tmp 14) (.tmp 19) _ rfl W0.heap.size (X.heap.size + 1) 45 jE _ 4 56 Tryz.underlying35 IE.out.1 IE.out.2.1 IE.out.2.2.1 IE.out.2.2.2 rfl (by omega) (R := IsEN) (l := es) (m := [(⟨kd, s, nm, []⟩, .slice none 0 0)]) (.slice a p c) ?_ (by exact HEM.out.main.alloc (.cells #[.int .i64 (kd : Int), .string (txt s), .int .i64 nm, .slice none 0 0] 45)) (some ⟨X.heap.size, 0, none⟩) 1 1 ?_ (by exact SlR.new1 (x := [.int .i64 (kd : Int), .string (txt s), .int .i64 nm, .slice none 0 0]) rfl rfl ⟨rfl, _, _, _, rfl⟩) (p + 1) (by rw [Hp.out]) IsEN.one (by rw [Hp.out]; unfold maxLen; omega) (by rw [Hp.out]; omega) (by have := HX.out.size; rw [World.size_alloc]; omega) ?_; rfl; rfl; intro oa oc w2 hown hgr; have O2 := zH (And.intro hown hgr); have B2 : Below W0.heap.size X w2 := ((Below.refl W0.heap.size X).alloc HX.out.size _).grown hgr (by have := HX.out.size; rw [World.size_alloc]; omega) (fun g' hg' => (HEM.out.main.block g' hg').1); have c4 : w2.cell? ⟨g, 4, none⟩ = some (.slice ka m kc) := (HBX.out.below (HX.out.trans B2) lg).cell rfl; have HB2 := zH B2; clear B2 hown hgr))
  have E2 : Hid (EL w2 W0.heap.size (.slice oa (p + 1) oc) (es ++ [(⟨kd, s, nm, []⟩, .slice none 0 0)])) := zH ((HEM.out.alloc (.cells #[.int .i64 (kd : Int), .string (txt s), .int .i64 nm, .slice none 0 0] 45)).push rfl (by have := O2.out.1; exact this) (by have := O2.out.2; exact this))
  clear c0 c1 c2 c3 c4 O2
  go_loopw [1, 7, 9, 10, 11, 26] (fun v d _ _ _ i wr => ∃ (j : Nat) (a' : Option Addr) (n' c' : Nat) (kv : Value) (es2 : List (EN × Value)), j ≤ m ∧ i = .int .i64 (j : Int) ∧ v = .slice a' n' c' ∧ d = .int .i64 (deepL (ks.take j) : Int) ∧ Hid (n' = p + 1 + sizeL (ks.take j)) ∧ Hid (EL wr W0.heap.size (.slice a' n' c') (es ++ (⟨kd, s, nm, placesL (ks.take j) (p + 1)⟩, kv) :: es2)) ∧ Hid (es2.map (·.1) = flatL (ks.take j) (p + 1)) ∧ Hid (Below W0.heap.size X wr)) (fun _ _ _ _ _ i _ => m - (intOf i).toNat)
  case atStart => exact ⟨0, oa, p + 1, oc, .slice none 0 0, [], Nat.zero_le _, rfl, rfl, rfl, zH (by simp [sizeL]), E2, zH (by simp [flatL]), HB2⟩
  case round =>
    obtain ⟨j, a', n', c', kv, es2, hj, rfl, rfl, rfl, hn', hEL, hes2, hB⟩ := hrel
    have HN := hn'
    have HEL := hEL
    have HES := hes2
    have HB := hB
    clear hn' hEL hes2 hB E2 HB2
    by_cases hlt : j < m
    · obtain ⟨gk, hgk⟩ := get_some Hm.out hlt
      obtain ⟨tk, htk⟩ := get_some Hmk.out hlt
      have hLp := get_mid es es2 (⟨kd, s, nm, placesL (ks.take j) (p + 1)⟩, kv) p Hp.out
      obtain ⟨gm, rfl, hgm, hgml, hfz, hat⟩ := HEL.out.main.at00 (by simp; omega) (by omega)
      obtain ⟨x0, hx0, ⟨rfl, ak, nk, ck, hkv⟩, hc0⟩ := hat p _ hLp
      simp only at hkv
      subst hkv
      have u3 : wr.cell? ⟨gm, p * 4 + 3, none⟩ = some (.slice ak nk ck) := hc0 3 _ rfl
      have hnk : nk = (placesL (ks.take j) (p + 1)).length := by
        obtain ⟨a9, c9, h9⟩ := (HEL.out.kids p _ hLp).form
        injection h9
      have hszj := sizeL_take_le ks j
      have hpl : (placesL (ks.take j) (p + 1)).length ≤ 5000 := by rw [placesL_len]; have := len_le_size (ks.take j); omega
      have hn5 : n' ≤ 5000 := by have := HN.out; omega
      have hpn : (p : Int) < (n' : Int) := by have := HN.out; omega
      have hpn2 : p < n' := by have := HN.out; omega
      have p0 : (0 : Int) ≤ (p : Int) := Int.natCast_nonneg _
      obtain ⟨b1, off1, x1, rfl, hb1, hx1, rfl, hc1⟩ := (HROW.out.below (HX.out.trans (HB.out.mono zL))).at_ hgk
      have k0 := hc1 0 _ rfl
      simp only [Nat.add_zero, Nat.mul_one] at k0
      have HLp := zH hLp
      have Hnk := zH hnk
      have Hpl := zH hpl
      have Htk := zH htk
      have Hgk := zH hgk
      have Hfz := zH hfz
      have Hgml := zH hgml
      clear hx0 hc0 hat hx1 hc1 hLp hnk hpl htk hgk hfz hgm
      go_wp2_with (first
        | (at_builtin; refine wpList_append_list2 rfl (.tmp 36) (.tmp 39) _ rfl W0.heap.size (wr.heap.size + 1) 3 jI _ 1 8 Tryz.underlying43 II.out.1 II.out.2.1 II.out.2.2.1 II.out.2.2.2 rfl (by omega) (R := IsNat) (l := placesL (ks.take j) (p + 1)) (m := [n']) (.slice ak nk ck) ?_ (by exact (HEL.out.kids p _ HLp.out).alloc (.cells #[.int .i64 (n' : Int)] 3)) (some ⟨wr.heap.size, 0, none⟩) 1 1 ?_ (by exact SlR.new1 (x := [.int .i64 (n' : Int)]) rfl rfl rfl) (nk + 1) (by rw [Hnk.out]) IsNat.one (by have := Hpl.out; unfold maxLen; omega) (by have := Hpl.out; omega) (by have := HX.out.size; have := HB.out.size; rw [World.size_alloc]; omega) ?_; rfl; rfl; intro ak2 ck2 w3 hown hgr hat3; have O3 := zH (And.intro hown (And.intro hgr hat3)); have m3 := ((HEL.out.alloc (.cells #[.int .i64 (n' : Int)] 3)).main.kept1 ((HEL.out.alloc (.cells #[.int .i64 (n' : Int)] 3)).kids p _ HLp.out) (by decide) hgr); obtain ⟨gm2, e2, _, _, hfz3, hat4⟩ := m3.at00 (by simp; omega) (by omega); injection e2 with e2; injection e2 with e2; subst e2; obtain ⟨x5, hx5, ⟨rfl, _⟩, hc5⟩ := hat4 p _ HLp.out; have u5 : w3.cell? ⟨gm, p * 4 + 3, none⟩ = some (.slice ak nk ck) := hc5 3 _ rfl; have z5 := hfz3 (p * 4 + 3); clear hown hgr hat3 hfz3 hat4 hx5 hc5))
      have E3 := HEL.out.kid HLp.out ⟨_, _, _, rfl⟩ (.cells #[.int .i64 (n' : Int)] 3) O3.out.1 O3.out.2.1 (by have := O3.out.2.2; rw [World.size_alloc] at this; exact this)
      rw [set_mid es es2 _ _ p Hp.out] at E3
      have B3 : Below W0.heap.size X (w3.setCell ⟨gm, p * 4 + 3, none⟩ (.slice ak2 (nk + 1) ck2)) := (((HB.out.alloc (Nat.le_trans HX.out.size HB.out.size) (.cells #[.int .i64 (n' : Int)] 3)).grown O3.out.2.1 (by have := HX.out.size; have := HB.out.size; rw [World.size_alloc]; omega) (fun g' hg' => ((HEL.out.kids p _ HLp.out).block g' hg').1))).setCell (p := ⟨gm, p * 4 + 3, none⟩) ((HEL.out.main.block gm rfl).1) _
      have hes2 : es2.length = sizeL (ks.take j) := by have := congrArg List.length HES.out; rw [List.length_map, trFlatL_len] at this; exact this
      have htk1 := take_snoc1 Htk.out
      have hszt := sizeL_take_le ks (j + 1)
      rw [htk1, sizeL_app] at hszt
      simp only [sizeL] at hszt
      have HE3 := zH E3
      have HB3 := zH B3
      have HT1 := zH htk1
      have Hes2 := zH hes2
      have CC := HIH.out tk gk _ (.slice (some ⟨gm, 0, none⟩) n' c') _ (Nat.le_trans (size_mem (List.mem_iff_getElem?.2 ⟨j, Htk.out⟩)) hszk) (TreesIn.get HTR.out Htk.out Hgk.out) (HX.out.trans B3) E3 (by rw [List.length_append, Hp.out, List.length_cons, hes2]; omega)
      have HCC := zH CC
      clear E3 B3 htk1 hes2 CC
      refine HCC.out.mono ?_
      rintro e w4 ⟨v4, es4, rfl, hE4, hm4, hB4⟩
      obtain ⟨a4, c4, rfl⟩ := hE4.main.form
      have HE4 := zH hE4
      have HM4 := zH hm4
      have HB4 := zH (HB3.out.trans hB4)
      obtain ⟨n4, hn4⟩ : ∃ z, (es ++ (⟨kd, s, nm, placesL (ks.take j) (p + 1) ++ [n']⟩, Value.slice ak2 (nk + 1) ck2) :: es2 ++ es4).length = z := ⟨_, rfl⟩
      rw [hn4]
      have HN4 := zH hn4
      clear hE4 hm4 hB4 HCC hn4 u3 u5 z5 k0
      go_wp2_with fail
      go_roundw
      case rel =>
        have hn1 : n' = p + 1 + sizeL (ks.take j) := HN.out
        have hpl1 : placesL (ks.take (j + 1)) (p + 1) = placesL (ks.take j) (p + 1) ++ [n'] := by rw [HT1.out, placesL_app, hn1]; rfl
        have hlen4 : es4.length = tk.size := by have := congrArg List.length HM4.out; rw [List.length_map, trFlat_len] at this; exact this
        refine ⟨j + 1, a4, n4, c4, .slice ak2 (nk + 1) ck2, es2 ++ es4, by omega, by go_num, rfl, ?_, zH ?_, zH ?_, zH ?_, HB4⟩
        · rw [HT1.out, deepL_app]
          simp only [deepL]
          congr 1
          first | (split <;> omega) | omega
        · rw [← HN4.out, HT1.out, sizeL_app]
          simp only [List.length_append, List.length_cons, sizeL, Hp.out, Hes2.out, hlen4]
          omega
        · rw [hpl1]
          have := HE4.out
          rw [HN4.out] at this
          rw [List.append_assoc, List.cons_append] at this
          exact this
        · rw [List.map_append, HES.out, HM4.out, HT1.out, flatL_app]
          simp only [List.length_append, List.length_cons, Hp.out, Hes2.out, flatL, List.append_nil]
          congr 2
          omega
      case measure => simp [intOf]; omega
    · have hjm : j = m := by omega
      subst hjm
      clear hlt
      have hsz2 := hsz
      have hdd : deepL (ks.take j) ≤ 5000 := by have := deepL_le (ks.take j); have := sizeL_take_le ks j; omega
      have hd63 : (deepL (ks.take j) : Int) ≤ 5000 := by omega
      have hd0 : (0 : Int) ≤ (deepL (ks.take j) : Int) := Int.natCast_nonneg _
      have htk : ks.take j = ks := List.take_of_length_le (by rw [Hmk.out]; exact Nat.le_refl _)
      have HTK := zH htk
      clear htk hdd
      go_wp2_with fail
      go_ret2
      refine ⟨.slice a' n' c', (⟨kd, s, nm, placesL (ks.take j) (p + 1)⟩, kv) :: es2, ?_, HEL.out, ?_, HB.out⟩
      · show Ending.returned (.tuple #[.slice a' n' c', .int .i64 ((deepL (ks.take j) : Int) + 1)]) = _
        rw [HTK.out]
        rfl
      · rw [List.map_cons, HES.out, HTK.out, Hp.out]
        rfl
end Go.Proofs.YtdkoafmgenbkbaaGreatDoor
namespace Go.Proofs.YtdkoafmgenbkbaaGreatDoor
open Go.RowKit
theorem p_one_and (W : World) : Calls Tryz.prog 123 #[.string ⟨#[97, 110, 100]⟩] W fun e w' => e = .returned (.tuple #[.int .i64 0, .int .i64 0]) ∧ w' = W := by
  go_enter Tryz.func123, Tryz.ntmps123
  go_wp2_with fail
  go_ret2
  exact ⟨rfl, rfl⟩
theorem p_one_any (W : World) : Calls Tryz.prog 123 #[.string ⟨#[97, 110, 121]⟩] W fun e w' => e = .returned (.tuple #[.int .i64 31, .int .i64 2]) ∧ w' = W := by
  go_enter Tryz.func123, Tryz.ntmps123
  go_wp2_with fail
  go_ret2
  exact ⟨rfl, rfl⟩
theorem p_one_concept (W : World) : Calls Tryz.prog 123 #[.string ⟨#[99, 111, 110, 99, 101, 112, 116]⟩] W fun e w' => e = .returned (.tuple #[.int .i64 17, .int .i64 1]) ∧ w' = W := by
  go_enter Tryz.func123, Tryz.ntmps123
  go_wp2_with fail
  go_ret2
  exact ⟨rfl, rfl⟩
theorem p_one_else (W : World) : Calls Tryz.prog 123 #[.string ⟨#[101, 108, 115, 101]⟩] W fun e w' => e = .returned (.tuple #[.int .i64 0, .int .i64 0]) ∧ w' = W := by
  go_enter Tryz.func123, Tryz.ntmps123
  go_wp2_with fail
  go_ret2
  exact ⟨rfl, rfl⟩
theorem p_one_end (W : World) : Calls Tryz.prog 123 #[.string ⟨#[101, 110, 100]⟩] W fun e w' => e = .returned (.tuple #[.int .i64 0, .int .i64 0]) ∧ w' = W := by
  go_enter Tryz.func123, Tryz.ntmps123
  go_wp2_with fail
  go_ret2
  exact ⟨rfl, rfl⟩
theorem p_one_every (W : World) : Calls Tryz.prog 123 #[.string ⟨#[101, 118, 101, 114, 121]⟩] W fun e w' => e = .returned (.tuple #[.int .i64 32, .int .i64 2]) ∧ w' = W := by
  go_enter Tryz.func123, Tryz.ntmps123
  go_wp2_with fail
  go_ret2
  exact ⟨rfl, rfl⟩
theorem p_one_false (W : World) : Calls Tryz.prog 123 #[.string ⟨#[102, 97, 108, 115, 101]⟩] W fun e w' => e = .returned (.tuple #[.int .i64 4, .int .i64 0]) ∧ w' = W := by
  go_enter Tryz.func123, Tryz.ntmps123
  go_wp2_with fail
  go_ret2
  exact ⟨rfl, rfl⟩
theorem p_one_first (W : World) : Calls Tryz.prog 123 #[.string ⟨#[102, 105, 114, 115, 116]⟩] W fun e w' => e = .returned (.tuple #[.int .i64 15, .int .i64 1]) ∧ w' = W := by
  go_enter Tryz.func123, Tryz.ntmps123
  go_wp2_with fail
  go_ret2
  exact ⟨rfl, rfl⟩
theorem p_one_id (W : World) : Calls Tryz.prog 123 #[.string ⟨#[105, 100]⟩] W fun e w' => e = .returned (.tuple #[.int .i64 18, .int .i64 1]) ∧ w' = W := by
  go_enter Tryz.func123, Tryz.ntmps123
  go_wp2_with fail
  go_ret2
  exact ⟨rfl, rfl⟩
theorem p_one_if (W : World) : Calls Tryz.prog 123 #[.string ⟨#[105, 102]⟩] W fun e w' => e = .returned (.tuple #[.int .i64 30, .int .i64 3]) ∧ w' = W := by
  go_enter Tryz.func123, Tryz.ntmps123
  go_wp2_with fail
  go_ret2
  exact ⟨rfl, rfl⟩
theorem p_one_in (W : World) : Calls Tryz.prog 123 #[.string ⟨#[105, 110]⟩] W fun e w' => e = .returned (.tuple #[.int .i64 0, .int .i64 0]) ∧ w' = W := by
  go_enter Tryz.func123, Tryz.ntmps123
  go_wp2_with fail
  go_ret2
  exact ⟨rfl, rfl⟩
theorem p_one_int (W : World) : Calls Tryz.prog 123 #[.string ⟨#[105, 110, 116]⟩] W fun e w' => e = .returned (.tuple #[.int .i64 19, .int .i64 1]) ∧ w' = W := by
  go_enter Tryz.func123, Tryz.ntmps123
  go_wp2_with fail
  go_ret2
  exact ⟨rfl, rfl⟩
theorem p_one_none (W : World) : Calls Tryz.prog 123 #[.string ⟨#[110, 111, 110, 101]⟩] W fun e w' => e = .returned (.tuple #[.int .i64 6, .int .i64 0]) ∧ w' = W := by
  go_enter Tryz.func123, Tryz.ntmps123
  go_wp2_with fail
  go_ret2
  exact ⟨rfl, rfl⟩
theorem p_one_not (W : World) : Calls Tryz.prog 123 #[.string ⟨#[110, 111, 116]⟩] W fun e w' => e = .returned (.tuple #[.int .i64 0, .int .i64 0]) ∧ w' = W := by
  go_enter Tryz.func123, Tryz.ntmps123
  go_wp2_with fail
  go_ret2
  exact ⟨rfl, rfl⟩
theorem p_one_only (W : World) : Calls Tryz.prog 123 #[.string ⟨#[111, 110, 108, 121]⟩] W fun e w' => e = .returned (.tuple #[.int .i64 33, .int .i64 2]) ∧ w' = W := by
  go_enter Tryz.func123, Tryz.ntmps123
  go_wp2_with fail
  go_ret2
  exact ⟨rfl, rfl⟩
theorem p_one_or (W : World) : Calls Tryz.prog 123 #[.string ⟨#[111, 114]⟩] W fun e w' => e = .returned (.tuple #[.int .i64 0, .int .i64 0]) ∧ w' = W := by
  go_enter Tryz.func123, Tryz.ntmps123
  go_wp2_with fail
  go_ret2
  exact ⟨rfl, rfl⟩
theorem p_one_self (W : World) : Calls Tryz.prog 123 #[.string ⟨#[115, 101, 108, 102]⟩] W fun e w' => e = .returned (.tuple #[.int .i64 5, .int .i64 0]) ∧ w' = W := by
  go_enter Tryz.func123, Tryz.ntmps123
  go_wp2_with fail
  go_ret2
  exact ⟨rfl, rfl⟩
theorem p_one_size (W : World) : Calls Tryz.prog 123 #[.string ⟨#[115, 105, 122, 101]⟩] W fun e w' => e = .returned (.tuple #[.int .i64 14, .int .i64 1]) ∧ w' = W := by
  go_enter Tryz.func123, Tryz.ntmps123
  go_wp2_with fail
  go_ret2
  exact ⟨rfl, rfl⟩
theorem p_one_sum (W : World) : Calls Tryz.prog 123 #[.string ⟨#[115, 117, 109]⟩] W fun e w' => e = .returned (.tuple #[.int .i64 34, .int .i64 2]) ∧ w' = W := by
  go_enter Tryz.func123, Tryz.ntmps123
  go_wp2_with fail
  go_ret2
  exact ⟨rfl, rfl⟩
theorem p_one_text (W : World) : Calls Tryz.prog 123 #[.string ⟨#[116, 101, 120, 116]⟩] W fun e w' => e = .returned (.tuple #[.int .i64 16, .int .i64 1]) ∧ w' = W := by
  go_enter Tryz.func123, Tryz.ntmps123
  go_wp2_with fail
  go_ret2
  exact ⟨rfl, rfl⟩
theorem p_one_then (W : World) : Calls Tryz.prog 123 #[.string ⟨#[116, 104, 101, 110]⟩] W fun e w' => e = .returned (.tuple #[.int .i64 0, .int .i64 0]) ∧ w' = W := by
  go_enter Tryz.func123, Tryz.ntmps123
  go_wp2_with fail
  go_ret2
  exact ⟨rfl, rfl⟩
theorem p_one_true (W : World) : Calls Tryz.prog 123 #[.string ⟨#[116, 114, 117, 101]⟩] W fun e w' => e = .returned (.tuple #[.int .i64 3, .int .i64 0]) ∧ w' = W := by
  go_enter Tryz.func123, Tryz.ntmps123
  go_wp2_with fail
  go_ret2
  exact ⟨rfl, rfl⟩
theorem p_one {s : List Nat} (hs : s ∈ wordsL) (W : World) : Calls Tryz.prog 123 #[.string (txt s)] W fun e w' => e = .returned (.tuple #[.int .i64 ((oneN s).1 : Int), .int .i64 ((oneN s).2 : Int)]) ∧ w' = W := by
  simp only [wordsL, List.mem_cons, List.not_mem_nil, or_false] at hs
  rcases hs with rfl | rfl | rfl | rfl | rfl | rfl | rfl | rfl | rfl | rfl | rfl | rfl | rfl | rfl | rfl | rfl | rfl | rfl | rfl | rfl | rfl | rfl
  · exact p_one_and W
  · exact p_one_any W
  · exact p_one_concept W
  · exact p_one_else W
  · exact p_one_end W
  · exact p_one_every W
  · exact p_one_false W
  · exact p_one_first W
  · exact p_one_id W
  · exact p_one_if W
  · exact p_one_in W
  · exact p_one_int W
  · exact p_one_none W
  · exact p_one_not W
  · exact p_one_only W
  · exact p_one_or W
  · exact p_one_self W
  · exact p_one_size W
  · exact p_one_sum W
  · exact p_one_text W
  · exact p_one_then W
  · exact p_one_true W
end Go.Proofs.YtdkoafmgenbkbaaGreatDoor
