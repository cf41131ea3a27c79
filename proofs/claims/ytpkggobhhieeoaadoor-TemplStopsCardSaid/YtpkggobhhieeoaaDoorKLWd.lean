/- - -/
import Derived.Test.YtpkggobhhieeoaaDoorKM7
set_option maxRecDepth 100000
set_option maxHeartbeats 32000000
set_option linter.unusedSimpArgs false
set_option linter.unusedVariables false
namespace Go.Proofs.YtpkggobhhieeoaaDoor
open Go.RowKit
theorem quiet_callw {P : Program} {f : FuncId} {args : Array Value} {w : World} {n : Nat} {v : Value} (h : Calls P f args (w.drewN n) fun e w' => e = .returned v ∧ w' = w.drewN n) :
    Calls P f args (w.drewN n) fun e w'' => e = .returned v ∧ ∃ m, w'' = w.drewN m :=
  h.mono fun _ _ ⟨he, hm⟩ => ⟨he, n, hm⟩
theorem region_split {P : Program} {id : Nat} {ops : Array Oper} {dr : Bool} {Q : Exit → Act → World → Prop} {a : Act} {X : World} (R : Nat → World → Nat → Nat → World → Prop) (Fr : Nat → World → Nat → Nat → Act)
    (h : (∀ g1 w3 b cap w6, R g1 w3 b cap w6 → Q .normal (Fr g1 w3 b cap) w6) → Code.wp P (Code.region id ops dr) Q a X) (key : ∀ g1 w3 b cap w6, R g1 w3 b cap w6 → Q .normal (Fr g1 w3 b cap) w6) : Code.wp P (Code.region id ops dr) Q a X := h key
theorem lit_openT : txt openT = ⟨#[40]⟩ := by decide
theorem lit_closeT : txt closeT = ⟨#[41]⟩ := by decide
theorem lit_inT : txt inT = ⟨#[105, 110]⟩ := by decide
theorem lit_colonT : txt colonT = ⟨#[58]⟩ := by decide
theorem lit_endT : txt endT = ⟨#[101, 110, 100]⟩ := by decide
theorem lit_thenT : txt thenT = ⟨#[116, 104, 101, 110]⟩ := by decide
theorem lit_elseT : txt elseT = ⟨#[101, 108, 115, 101]⟩ := by decide
section
variable {q : Nat} {a : Option Addr} {c sz : Nat} {l : List Tok} {i : Nat} {W : World}
theorem want_yes {s : List Nat} {r : PR} (h : isT l i s = true) : want l i s r = r := by unfold want; rw [if_pos h]
theorem want_no {s : List Nat} {r : PR} (h : isT l i s = false) : want l i s r = .no i := by unfold want; rw [if_neg (by rw [h]; simp)]
theorem oneN_le (s : List Nat) : (oneN s).2 ≤ 3 := by
  unfold oneN
  cases h : onesL.find? (fun x => decide (x.1 = s)) with
  | none => exact Nat.zero_le _
  | some x =>
    have : ∀ m ∈ onesL, m.2.2 ≤ 3 := by decide
    exact this _ (List.mem_of_find?_eq_some h)
def wordR (l : List Tok) (f i : Nat) (s : List Nat) : PR :=
  if (oneN s).1 = 0 then .no i
  else if (oneN s).2 = 0 then .ok (.node (oneN s).1 [] 0 []) (i + 1)
  else if (oneN s).2 = 1 then want l (i + 1) openT ((pL l f 1 (i + 2)).bind fun a j => want l j closeT (.ok (.node (oneN s).1 [] 0 [a]) (j + 1)))
  else if (oneN s).2 = 2 then nameAt l (i + 1) fun s' => want l (i + 2) inT ((pL l f 1 (i + 3)).bind fun a j => want l j colonT ((pL l f 1 (j + 1)).bind fun b m => want l m endT (.ok (.node (oneN s).1 s' 0 [a, b]) (m + 1))))
  else (pL l f 1 (i + 1)).bind fun a j => want l j thenT ((pL l f 1 (j + 1)).bind fun b m => want l m elseT ((pL l f 1 (m + 1)).bind fun c q => want l q endT (.ok (.node (oneN s).1 [] 0 [a, b, c]) (q + 1))))
theorem wordR_match (l : List Tok) (f i : Nat) (s : List Nat) : (match oneN s with
  | (0, _) => PR.no i
  | (k, 0) => .ok (.node k [] 0 []) (i + 1)
  | (k, 1) => want l (i + 1) openT ((pL l f 1 (i + 2)).bind fun a j => want l j closeT (.ok (.node k [] 0 [a]) (j + 1)))
  | (k, 2) => nameAt l (i + 1) fun s => want l (i + 2) inT ((pL l f 1 (i + 3)).bind fun a j => want l j colonT ((pL l f 1 (j + 1)).bind fun b m => want l m endT (.ok (.node k s 0 [a, b]) (m + 1))))
  | (k, _) => (pL l f 1 (i + 1)).bind fun a j => want l j thenT ((pL l f 1 (j + 1)).bind fun b m => want l m elseT ((pL l f 1 (m + 1)).bind fun c q => want l q endT (.ok (.node k [] 0 [a, b, c]) (q + 1))))) = wordR l f i s := by
  unfold wordR
  obtain ⟨⟨k, p⟩, h⟩ : ∃ z, oneN s = z := ⟨_, rfl⟩
  rw [h]
  split
  · simp_all
  all_goals (rename_i h1; simp_all)
theorem p_word {t : Tok} (ht : l[i]? = some t) (hw : t.text ∈ wordsL) (f : Nat) (HO : LevelC q a c sz l 55 (fun i => pL l f 1 i)) (h : PSt q a c sz l i W) (hr : wordR l f i t.text ≠ .out) :
    Calls Tryd.prog 113 #[.pointer (some ⟨q, 0, none⟩)] W (Reads q a c sz l W (wordR l f i t.text)) := by
  obtain ⟨tt, htt⟩ : ∃ k, t.text = k := ⟨_, rfl⟩
  have ONE := zH (fun X => p_one (s := tt) (by rw [← htt]; exact hw) X)
  obtain ⟨jI, hi, hz, hsz, hby⟩ := info_parts info_ptr
  have I := zH (And.intro hi (And.intro hz (And.intro hsz hby)))
  clear hi hz hsz hby
  have H := zH h
  have QL := zH h.box.lt
  have hlt := (List.getElem?_eq_some_iff.1 ht).1
  have hfew := h.few
  obtain ⟨f0, f1, f2, f3, f4⟩ := h.facts
  obtain ⟨b0, off, rfl, t0, t1, _, _, hok⟩ := h.tok ht
  rw [htt] at t1 hr ⊢
  have ST := zH (fun n => h.step (j := i + 1) (u := .int .i64 ((i : Int) + 1)) (by go_num) hlt n)
  obtain ⟨n, hn⟩ : ∃ n, l.length = n := ⟨_, rfl⟩
  have Hn := zH hn
  rw [hn] at f0 hlt hfew
  have n63 : n ≤ 9223372036854775807 := by omega
  have i5 : (i : Int) ≤ 5000 := by omega
  have i0 : (0 : Int) ≤ (i : Int) := Int.natCast_nonneg _
  have ilt : (i : Int) < (n : Int) := by omega
  obtain ⟨⟨k, pt⟩, hone⟩ : ∃ z, oneN tt = z := ⟨_, rfl⟩
  rw [hone] at ONE
  unfold wordR at hr ⊢
  rw [hone] at hr ⊢
  simp only at hr ONE
  have hp3 : pt ≤ 3 := by have := oneN_le tt; rw [hone] at this; exact this
  have HON := zH hone
  clear hone htt hw hok t0 hn ht h
  by_cases hk0 : k = 0
  · subst hk0
    have HG : Hid (∀ X, PSt q (some ⟨b0, off, none⟩) c sz l i X → Calls Tryd.prog 56 #[.pointer (some ⟨q, 0, none⟩)] X fun e w' => e = .panicked (thrownE (placeAt l sz i)) ∧ Quiet X w') := zH (fun X hX => p_give hX)
    simp only [if_true]
    clear hr HO
    go_enter Tryd.func113, Tryd.ntmps113
    go_wp2_with fail
    go_quiet ((go_at_call 115; with_reducible exact quiet_callw (ONE.out _)))
    go_wp2_with (first
      | (go_at_call 56; refine (HG.out _ (H.out.quiet ⟨_, rfl⟩)).mono ?_; rintro e w2 ⟨rfl, q2⟩; have Q2 := zH q2; clear q2))
    exact ⟨rfl, rfl, (Mv.quiet ⟨_, rfl⟩).trans (Mv.quiet Q2.out)⟩
  · have d1 : ((k : Int) == 0) = false := by simp; omega
    rw [if_neg hk0] at hr
    simp only [if_neg hk0]
    clear hk0
    obtain ⟨r, hrr⟩ : ∃ r, (if pt = 0 then PR.ok (.node k [] 0 []) (i + 1)
      else if pt = 1 then want l (i + 1) openT ((pL l f 1 (i + 2)).bind fun a j => want l j closeT (.ok (.node k [] 0 [a]) (j + 1)))
      else if pt = 2 then nameAt l (i + 1) fun s' => want l (i + 2) inT ((pL l f 1 (i + 3)).bind fun a j => want l j colonT ((pL l f 1 (j + 1)).bind fun b m => want l m endT (.ok (.node k s' 0 [a, b]) (m + 1))))
      else (pL l f 1 (i + 1)).bind fun a j => want l j thenT ((pL l f 1 (j + 1)).bind fun b m => want l m elseT ((pL l f 1 (m + 1)).bind fun c q => want l q endT (.ok (.node k [] 0 [a, b, c]) (q + 1))))) = r := ⟨_, rfl⟩
    rw [hrr] at hr ⊢
    have HNE := zH hr
    have HC : Hid (∀ (j : Nat) (X : World) (r' : PR), PSt q (some ⟨b0, off, none⟩) c sz l j X → pL l f 1 j = r' → r' ≠ .out → Calls Tryd.prog 55 #[.pointer (some ⟨q, 0, none⟩)] X (Reads q (some ⟨b0, off, none⟩) c sz l X r')) := zH (fun j X r' hX e he => by rw [← e]; exact HO j X hX (by show pL l f 1 j ≠ .out; rw [e]; exact he))
    have SW : Hid (∀ m, WS q (some ⟨b0, off, none⟩) c sz l W W.heap.size k [] [] (i + 1) (((W.drewN m).setCell ⟨q, 1, none⟩ (.int .i64 ((i : Int) + 1))).alloc (.cells #[.int .i64 (k : Int), .string (txt []), .int .i64 0, .slice none 0 0, .slice none 0 0] 126)) (.slice none 0 0)) := zH (fun m => by have h0 := WS.new (k := k) (s := []) (ST.out m).1 (ST.out m).2 QL.out; simp only [World.size_setCell] at h0; exact h0)
    clear hr HO
    rcases (show pt = 0 ∨ pt = 1 ∨ pt = 2 ∨ pt = 3 by omega) with rfl | rfl | rfl | rfl
    · have hr1 : PR.ok (.node k [] 0 []) (i + 1) = r := hrr
      subst hr1
      clear hrr
      go_enter Tryd.func113, Tryd.ntmps113
      go_wp2_with fail
      go_quiet ((go_at_call 115; with_reducible exact quiet_callw (ONE.out _)))
      go_wp2_with (first
        | (go_at_call 93; refine (p_of k [] _ _ _ _).mono ?_; rintro e w4 ⟨rfl, rfl⟩))
      go_ret
      exact (SW.out _).reads
    · have hr1 : want l (i + 1) openT ((pL l f 1 (i + 2)).bind fun a j => want l j closeT (.ok (.node k [] 0 [a]) (j + 1))) = r := hrr
      have HR := zH hr1
      clear hrr hr1
      go_enter Tryd.func113, Tryd.ntmps113
      go_wp2_with fail
      go_quiet ((go_at_call 115; with_reducible exact quiet_callw (ONE.out _)))
      go_wp2_with (first
        | (go_at_call 93; refine (p_of k [] _ _ _ _).mono ?_; rintro e w4 ⟨rfl, rfl⟩))
      generalize hwq : World.alloc (World.setCell _ _ _) _ = X1
      have S1 : Hid (WS q (some ⟨b0, off, none⟩) c sz l W W.heap.size k [] [] (i + 1) X1 (.slice none 0 0)) := zH (by rw [← hwq]; exact SW.out _)
      clear hwq
      obtain ⟨g, hg⟩ : ∃ g, W.heap.size = g := ⟨_, rfl⟩
      rw [hg] at S1 ⊢
      have HG := zH hg
      clear hg f0 f1 f2 f3 f4 t1
      obtain ⟨b, hb⟩ : ∃ b, isT l (i + 1) openT = b := ⟨_, rfl⟩
      cases b with
      | false =>
        have hr := HR.out
        rw [want_no hb] at hr
        subst hr
        have HX : Calls Tryd.prog 114 #[.pointer (some ⟨q, 0, none⟩), .string ⟨#[40]⟩] X1 fun e w' => e = .panicked (thrownE (placeAt l sz (i + 1))) ∧ Quiet X1 w' := by rw [← lit_openT]; exact p_want_no openT (show ∀ n ∈ openT, n < 256 by decide) hb S1.out.st
        refine HX.mono ?_
        rintro e w2 ⟨rfl, q2⟩
        exact ⟨rfl, rfl, S1.out.mv.trans (Mv.quiet q2)⟩
      | true =>
        have hr := HR.out
        rw [want_yes hb] at hr
        clear HR
        have HR := zH hr
        have HX : Calls Tryd.prog 114 #[.pointer (some ⟨q, 0, none⟩), .string ⟨#[40]⟩] X1 fun e w' => e = .returned (.tuple #[]) ∧ Mv q X1 w' ∧ PSt q (some ⟨b0, off, none⟩) c sz l ((i + 1) + 1) w' := by rw [← lit_openT]; exact p_want_yes openT (show ∀ n ∈ openT, n < 256 by decide) hb S1.out.st
        clear hr hb
        refine HX.mono ?_
        rintro e X2 ⟨rfl, h2, h3⟩
        have S2 := zH (S1.out.call h2 h3)
        clear h2 h3 HX S1
        go_wp2_with fail
        obtain ⟨r1, hp⟩ : ∃ r1, pL l f 1 ((i + 1) + 1) = r1 := ⟨_, rfl⟩
        obtain ⟨y0, y1, c4, z1, z4, lg⟩ := S2.out.cells
        clear y0 y1 z1
        cases r1 with
        | out =>
          exfalso
          have hr := HR.out
          rw [hp] at hr
          exact HNE.out hr.symm
        | no j2 =>
          have hr := HR.out
          rw [hp] at hr
          have hr1 : PR.no j2 = r := hr
          subst hr1
          have HX := zH (HC.out ((i + 1) + 1) (X2.drewN 1) (.no j2) (S2.out.quiet ⟨1, rfl⟩).st hp (by simp))
          clear hr hp
          refine wp_region_held_drew (S := fun w' => w'.cell? ⟨g, 4, none⟩ = some (.slice none 0 0)) (by kernel_rfl) c4 (fun hHeld => ?_)
          refine wpAnyH_take (i := 0) (v := ?_) rfl (by kernel_rfl) (by kernel_rfl) (by kernel_rfl) (fun _ _ _ h => h) (Or.inl ⟨by rfl, ?_⟩) (by assumption) ?_
          rotate_left
          · intro w hSw; (try dsimp only at hSw); go_simp; with_reducible rfl
          try simp only [Act.put, List.setIfInBounds_toArray, List.set_cons_zero, List.set_cons_succ]
          refine wpAnyH_take (i := 1) (v := ?_) rfl (by kernel_rfl) (by kernel_rfl) (by kernel_rfl) (fun _ _ _ h => h) (Or.inl ⟨by rfl, ?_⟩) (by assumption) ?_
          rotate_left
          · intro w hSw; (try dsimp only at hSw); go_simp; with_reducible rfl
          try simp only [Act.put, List.setIfInBounds_toArray, List.set_cons_zero, List.set_cons_succ]
          refine wpAnyH_take (i := 2) (v := ?_) rfl (by kernel_rfl) (by kernel_rfl) (by kernel_rfl) (fun _ _ _ h => h) (Or.inl ⟨by rfl, ?_⟩) (by assumption) ?_
          rotate_left
          · intro w hSw; (try dsimp only at hSw); go_simp; with_reducible rfl
          try simp only [Act.put, List.setIfInBounds_toArray, List.set_cons_zero, List.set_cons_succ]
          refine wpAnyH_take (i := 3) (v := ?_) rfl (by kernel_rfl) (by kernel_rfl) (by kernel_rfl) (fun _ _ _ h => h) (Or.inl ⟨by rfl, ?_⟩) (by assumption) ?_
          rotate_left
          · intro w hSw; (try dsimp only at hSw); go_simp; with_reducible rfl
          try simp only [Act.put, List.setIfInBounds_toArray, List.set_cons_zero, List.set_cons_succ]
          refine wpAnyH_take (i := 4) (v := ?_) rfl (by kernel_rfl) (by kernel_rfl) (by kernel_rfl) (fun _ _ _ h => h) (Or.inl ⟨by rfl, ?_⟩) (by assumption) ?_
          rotate_left
          · intro w hSw; (try dsimp only at hSw); go_simp; with_reducible rfl
          try simp only [Act.put, List.setIfInBounds_toArray, List.set_cons_zero, List.set_cons_succ]
          refine wpAnyH_take (i := 5) (v := ?_) rfl (by kernel_rfl) (by kernel_rfl) (by kernel_rfl) (fun _ _ _ h => h) (Or.inl ⟨by rfl, ?_⟩) (by assumption) ?_
          rotate_left
          · intro w hSw; (try dsimp only at hSw); go_simp; with_reducible rfl
          try simp only [Act.put, List.setIfInBounds_toArray, List.set_cons_zero, List.set_cons_succ]
          refine wpAnyH_ready (rs := [6]) (by kernel_rfl) (by simp) ?_
          refine AllReadyH.cons rfl (fun K hK => ?_) AllReadyH.nil
          go_simp
          go_wp2_with (first
            | (refine HX.out.mono ?_; rintro e w3 ⟨rfl, h1⟩; have M3 : Hid (Mv q W w3) := zH (S2.out.mv.trans ((Mv.quiet ⟨1, rfl⟩).trans h1)); clear h1))
          exact ⟨rfl, rfl, M3.out⟩
        | ok t2 j2 =>
          have hr := HR.out
          rw [hp] at hr
          simp only [PR.bind] at hr
          clear HR
          have HR := zH hr
          have HX := zH (HC.out ((i + 1) + 1) (X2.drewN 1) (.ok t2 j2) (S2.out.quiet ⟨1, rfl⟩).st hp (by simp))
          obtain ⟨gs, hg1, hg2⟩ := S2.out.row
          have hgl := hg2.len
          have G1 := zH hg1
          have G2 := zH hg2
          have GL := zH hgl
          clear hr hp hg1 hg2 hgl
          refine' region_split (fun g1 w3 b cap w6 => WS q (some ⟨b0, off, none⟩) c sz l W g k [] [t2] j2 w6 (.slice (some ⟨b, 0, none⟩) 1 cap)) _ ?_ ?_
          rotate_left
          · intro key
            have KEY := zH key
            clear key
            go_region_law (first
              | (go_simp; go_at_call 55; refine HX.out.mono ?_; rintro e w3 h2; obtain ⟨g1, rfl, h3, h4, h5⟩ := h2.get; have c43 : w3.cell? ⟨g, 4, none⟩ = some (.slice none 0 0) := h4.cell (by have := S2.out.ql; have := S2.out.lo; show q < g; omega) c4; have lg3 := cell_lt c43; have T3 := zH h3; have M3 := zH h4; have P3 := zH h5; clear h2 h3 h4 h5)
              | (refine step_append_lies _ (by rfl) (.tmp 43) (.tmp 46) _ (by rfl) (g + 1) 103 jI (.pointer none) 1 8 Tryd.underlying124 I.out.1 I.out.2.1 I.out.2.2.1 I.out.2.2.2 rfl (by omega) (.slice none 0 0) 0 _ (by rfl) (S2.out.own4 G1.out ⟨1, rfl⟩ M3.out (.cells #[.pointer (some ⟨g1, 0, none⟩)] 103) 0 GL.out) ⟨w3.heap.size, 0, none⟩ 1 1 [.pointer (some ⟨g1, 0, none⟩)] (by rfl) (by rfl) (news1 w3 _ 103) (by simp [Value.oneCell']) (by omega) (by unfold maxLen; omega) (by omega) (by rw [World.size_alloc]; have : g < w3.heap.size := lg3; omega) (w3.heap.size + 1) (by rw [World.size_alloc]) ?_; intro b5 cap5 w5 hown hgrow hat hlt; have bx := S2.out.box5 ⟨1, rfl⟩ M3.out _ hgrow; have c45 : w5.cell? ⟨g, 4, none⟩ = some (.slice none 0 0) := bx.cell rfl; have z45 : w5.frozen? ⟨g, 4, none⟩ = false := bx.frozen 4; have A5 := zH (And.intro hown (And.intro hgrow hat)); clear hown hgrow hat hlt bx))
            all_goals exact KEY.out g1 w3 b5 cap5 _ (S2.out.push ⟨1, rfl⟩ M3.out T3.out P3.out G1.out G2.out GL.out rfl A5.out.1 A5.out.2.1 A5.out.2.2 rfl)
          · clear c4 z4 lg G1 G2 GL HX
            intro g1 w3 b2 cap2 X3 h2
            have S3 := zH h2
            clear h2 S2
            go_wp2_with fail
            obtain ⟨b, hb⟩ : ∃ b, isT l j2 closeT = b := ⟨_, rfl⟩
            cases b with
            | false =>
              have hr := HR.out
              rw [want_no hb] at hr
              subst hr
              have HX : Calls Tryd.prog 114 #[.pointer (some ⟨q, 0, none⟩), .string ⟨#[41]⟩] X3 fun e w' => e = .panicked (thrownE (placeAt l sz j2)) ∧ Quiet X3 w' := by rw [← lit_closeT]; exact p_want_no closeT (show ∀ n ∈ closeT, n < 256 by decide) hb S3.out.st
              refine HX.mono ?_
              rintro e w2 ⟨rfl, q2⟩
              exact ⟨rfl, rfl, S3.out.mv.trans (Mv.quiet q2)⟩
            | true =>
              have hr := HR.out
              rw [want_yes hb] at hr
              clear HR
              have HR := zH hr
              have HX : Calls Tryd.prog 114 #[.pointer (some ⟨q, 0, none⟩), .string ⟨#[41]⟩] X3 fun e w' => e = .returned (.tuple #[]) ∧ Mv q X3 w' ∧ PSt q (some ⟨b0, off, none⟩) c sz l (j2 + 1) w' := by rw [← lit_closeT]; exact p_want_yes closeT (show ∀ n ∈ closeT, n < 256 by decide) hb S3.out.st
              clear hr hb
              refine HX.mono ?_
              rintro e X4 ⟨rfl, h2, h3⟩
              have S4 := zH (S3.out.call h2 h3)
              clear h2 h3 HX S3
              go_wp2_with fail
              have hr := HR.out
              subst hr
              go_ret
              exact S4.out.reads
    · have hr1 : (nameAt l (i + 1) fun s' => want l (i + 2) inT ((pL l f 1 (i + 3)).bind fun a j => want l j colonT ((pL l f 1 (j + 1)).bind fun b m => want l m endT (.ok (.node k s' 0 [a, b]) (m + 1))))) = r := hrr
      have HR := zH hr1
      clear hrr hr1
      go_enter Tryd.func113, Tryd.ntmps113
      go_wp2_with fail
      go_quiet ((go_at_call 115; with_reducible exact quiet_callw (ONE.out _)))
      go_wp2_with (first
        | (go_at_call 93; refine (p_of k [] _ _ _ _).mono ?_; rintro e w4 ⟨rfl, rfl⟩))
      generalize hwq : World.alloc (World.setCell _ _ _) _ = X1
      have S1 : Hid (WS q (some ⟨b0, off, none⟩) c sz l W W.heap.size k [] [] (i + 1) X1 (.slice none 0 0)) := zH (by rw [← hwq]; exact SW.out _)
      clear hwq
      obtain ⟨g, hg⟩ : ∃ g, W.heap.size = g := ⟨_, rfl⟩
      rw [hg] at S1 ⊢
      have HG := zH hg
      clear hg f0 f1 f2 f3 f4 t1
      by_cases hnm : ∃ tk, l[i + 1]? = some tk ∧ tk.kind = 3
      · obtain ⟨tk, htk, hkd⟩ := hnm
        have hr := HR.out
        unfold nameAt at hr
        rw [htk] at hr
        simp only at hr
        rw [if_pos hkd] at hr
        clear HR
        have HR := zH hr
        have HX := zH (p_name_yes htk hkd S1.out.st)
        clear hr htk hkd
        refine HX.out.mono ?_
        rintro e X2 ⟨rfl, h2, h3⟩
        have S2 := zH (S1.out.call h2 h3)
        clear h2 h3 HX S1
        obtain ⟨y0, y1, y4, z1, z4, lg⟩ := S2.out.cells
        clear y0 y4 z4
        go_wp2_with fail
        generalize hwq : World.setCell _ _ _ = X3
        have S3 : Hid (WS q (some ⟨b0, off, none⟩) c sz l W g k tk.text [] (i + 2) X3 (.slice none 0 0)) := zH (by rw [← hwq]; exact S2.out.name rfl)
        clear hwq S2 y1 z1 lg
        obtain ⟨b, hb⟩ : ∃ b, isT l (i + 2) inT = b := ⟨_, rfl⟩
        cases b with
        | false =>
          have hr := HR.out
          rw [want_no hb] at hr
          subst hr
          have HX : Calls Tryd.prog 114 #[.pointer (some ⟨q, 0, none⟩), .string ⟨#[105, 110]⟩] X3 fun e w' => e = .panicked (thrownE (placeAt l sz (i + 2))) ∧ Quiet X3 w' := by rw [← lit_inT]; exact p_want_no inT (show ∀ n ∈ inT, n < 256 by decide) hb S3.out.st
          refine HX.mono ?_
          rintro e w2 ⟨rfl, q2⟩
          exact ⟨rfl, rfl, S3.out.mv.trans (Mv.quiet q2)⟩
        | true =>
          have hr := HR.out
          rw [want_yes hb] at hr
          clear HR
          have HR := zH hr
          have HX : Calls Tryd.prog 114 #[.pointer (some ⟨q, 0, none⟩), .string ⟨#[105, 110]⟩] X3 fun e w' => e = .returned (.tuple #[]) ∧ Mv q X3 w' ∧ PSt q (some ⟨b0, off, none⟩) c sz l ((i + 2) + 1) w' := by rw [← lit_inT]; exact p_want_yes inT (show ∀ n ∈ inT, n < 256 by decide) hb S3.out.st
          clear hr hb
          refine HX.mono ?_
          rintro e X4 ⟨rfl, h2, h3⟩
          have S4 := zH (S3.out.call h2 h3)
          clear h2 h3 HX S3
          go_wp2_with fail
          obtain ⟨r1, hp⟩ : ∃ r1, pL l f 1 ((i + 2) + 1) = r1 := ⟨_, rfl⟩
          obtain ⟨y0, y1, c4, z1, z4, lg⟩ := S4.out.cells
          clear y0 y1 z1
          cases r1 with
          | out =>
            exfalso
            have hr := HR.out
            rw [hp] at hr
            exact HNE.out hr.symm
          | no j2 =>
            have hr := HR.out
            rw [hp] at hr
            have hr1 : PR.no j2 = r := hr
            subst hr1
            have HX := zH (HC.out ((i + 2) + 1) (X4.drewN 1) (.no j2) (S4.out.quiet ⟨1, rfl⟩).st hp (by simp))
            clear hr hp
            refine wp_region_held_drew (S := fun w' => w'.cell? ⟨g, 4, none⟩ = some (.slice none 0 0)) (by kernel_rfl) c4 (fun hHeld => ?_)
            refine wpAnyH_take (i := 0) (v := ?_) rfl (by kernel_rfl) (by kernel_rfl) (by kernel_rfl) (fun _ _ _ h => h) (Or.inl ⟨by rfl, ?_⟩) (by assumption) ?_
            rotate_left
            · intro w hSw; (try dsimp only at hSw); go_simp; with_reducible rfl
            try simp only [Act.put, List.setIfInBounds_toArray, List.set_cons_zero, List.set_cons_succ]
            refine wpAnyH_take (i := 1) (v := ?_) rfl (by kernel_rfl) (by kernel_rfl) (by kernel_rfl) (fun _ _ _ h => h) (Or.inl ⟨by rfl, ?_⟩) (by assumption) ?_
            rotate_left
            · intro w hSw; (try dsimp only at hSw); go_simp; with_reducible rfl
            try simp only [Act.put, List.setIfInBounds_toArray, List.set_cons_zero, List.set_cons_succ]
            refine wpAnyH_take (i := 2) (v := ?_) rfl (by kernel_rfl) (by kernel_rfl) (by kernel_rfl) (fun _ _ _ h => h) (Or.inl ⟨by rfl, ?_⟩) (by assumption) ?_
            rotate_left
            · intro w hSw; (try dsimp only at hSw); go_simp; with_reducible rfl
            try simp only [Act.put, List.setIfInBounds_toArray, List.set_cons_zero, List.set_cons_succ]
            refine wpAnyH_take (i := 3) (v := ?_) rfl (by kernel_rfl) (by kernel_rfl) (by kernel_rfl) (fun _ _ _ h => h) (Or.inl ⟨by rfl, ?_⟩) (by assumption) ?_
            rotate_left
            · intro w hSw; (try dsimp only at hSw); go_simp; with_reducible rfl
            try simp only [Act.put, List.setIfInBounds_toArray, List.set_cons_zero, List.set_cons_succ]
            refine wpAnyH_take (i := 4) (v := ?_) rfl (by kernel_rfl) (by kernel_rfl) (by kernel_rfl) (fun _ _ _ h => h) (Or.inl ⟨by rfl, ?_⟩) (by assumption) ?_
            rotate_left
            · intro w hSw; (try dsimp only at hSw); go_simp; with_reducible rfl
            try simp only [Act.put, List.setIfInBounds_toArray, List.set_cons_zero, List.set_cons_succ]
            refine wpAnyH_take (i := 5) (v := ?_) rfl (by kernel_rfl) (by kernel_rfl) (by kernel_rfl) (fun _ _ _ h => h) (Or.inl ⟨by rfl, ?_⟩) (by assumption) ?_
            rotate_left
            · intro w hSw; (try dsimp only at hSw); go_simp; with_reducible rfl
            try simp only [Act.put, List.setIfInBounds_toArray, List.set_cons_zero, List.set_cons_succ]
            refine wpAnyH_ready (rs := [6]) (by kernel_rfl) (by simp) ?_
            refine AllReadyH.cons rfl (fun K hK => ?_) AllReadyH.nil
            go_simp
            go_wp2_with (first
              | (refine HX.out.mono ?_; rintro e w3 ⟨rfl, h1⟩; have M3 : Hid (Mv q W w3) := zH (S4.out.mv.trans ((Mv.quiet ⟨1, rfl⟩).trans h1)); clear h1))
            exact ⟨rfl, rfl, M3.out⟩
          | ok t4 j4 =>
            have hr := HR.out
            rw [hp] at hr
            simp only [PR.bind] at hr
            clear HR
            have HR := zH hr
            have HX := zH (HC.out ((i + 2) + 1) (X4.drewN 1) (.ok t4 j4) (S4.out.quiet ⟨1, rfl⟩).st hp (by simp))
            obtain ⟨gs, hg1, hg2⟩ := S4.out.row
            have hgl := hg2.len
            have G1 := zH hg1
            have G2 := zH hg2
            have GL := zH hgl
            clear hr hp hg1 hg2 hgl
            refine' region_split (fun g1 w3 b cap w6 => WS q (some ⟨b0, off, none⟩) c sz l W g k tk.text [t4] j4 w6 (.slice (some ⟨b, 0, none⟩) 1 cap)) _ ?_ ?_
            rotate_left
            · intro key
              have KEY := zH key
              clear key
              go_region_law (first
                | (go_simp; go_at_call 55; refine HX.out.mono ?_; rintro e w3 h2; obtain ⟨g1, rfl, h3, h4, h5⟩ := h2.get; have c43 : w3.cell? ⟨g, 4, none⟩ = some (.slice none 0 0) := h4.cell (by have := S4.out.ql; have := S4.out.lo; show q < g; omega) c4; have lg3 := cell_lt c43; have T3 := zH h3; have M3 := zH h4; have P3 := zH h5; clear h2 h3 h4 h5)
                | (refine step_append_lies _ (by rfl) (.tmp 66) (.tmp 69) _ (by rfl) (g + 1) 103 jI (.pointer none) 1 8 Tryd.underlying124 I.out.1 I.out.2.1 I.out.2.2.1 I.out.2.2.2 rfl (by omega) (.slice none 0 0) 0 _ (by rfl) (S4.out.own4 G1.out ⟨1, rfl⟩ M3.out (.cells #[.pointer (some ⟨g1, 0, none⟩)] 103) 0 GL.out) ⟨w3.heap.size, 0, none⟩ 1 1 [.pointer (some ⟨g1, 0, none⟩)] (by rfl) (by rfl) (news1 w3 _ 103) (by simp [Value.oneCell']) (by omega) (by unfold maxLen; omega) (by omega) (by rw [World.size_alloc]; have : g < w3.heap.size := lg3; omega) (w3.heap.size + 1) (by rw [World.size_alloc]) ?_; intro b5 cap5 w5 hown hgrow hat hlt; have bx := S4.out.box5 ⟨1, rfl⟩ M3.out _ hgrow; have c45 : w5.cell? ⟨g, 4, none⟩ = some (.slice none 0 0) := bx.cell rfl; have z45 : w5.frozen? ⟨g, 4, none⟩ = false := bx.frozen 4; have A5 := zH (And.intro hown (And.intro hgrow hat)); clear hown hgrow hat hlt bx))
              all_goals exact KEY.out g1 w3 b5 cap5 _ (S4.out.push ⟨1, rfl⟩ M3.out T3.out P3.out G1.out G2.out GL.out rfl A5.out.1 A5.out.2.1 A5.out.2.2 rfl)
            · clear c4 z4 lg G1 G2 GL HX
              intro g1 w3 b4 cap4 X5 h2
              have S5 := zH h2
              clear h2 S4
              go_wp2_with fail
              obtain ⟨b, hb⟩ : ∃ b, isT l j4 colonT = b := ⟨_, rfl⟩
              cases b with
              | false =>
                have hr := HR.out
                rw [want_no hb] at hr
                subst hr
                have HX : Calls Tryd.prog 114 #[.pointer (some ⟨q, 0, none⟩), .string ⟨#[58]⟩] X5 fun e w' => e = .panicked (thrownE (placeAt l sz j4)) ∧ Quiet X5 w' := by rw [← lit_colonT]; exact p_want_no colonT (show ∀ n ∈ colonT, n < 256 by decide) hb S5.out.st
                refine HX.mono ?_
                rintro e w2 ⟨rfl, q2⟩
                exact ⟨rfl, rfl, S5.out.mv.trans (Mv.quiet q2)⟩
              | true =>
                have hr := HR.out
                rw [want_yes hb] at hr
                clear HR
                have HR := zH hr
                have HX : Calls Tryd.prog 114 #[.pointer (some ⟨q, 0, none⟩), .string ⟨#[58]⟩] X5 fun e w' => e = .returned (.tuple #[]) ∧ Mv q X5 w' ∧ PSt q (some ⟨b0, off, none⟩) c sz l (j4 + 1) w' := by rw [← lit_colonT]; exact p_want_yes colonT (show ∀ n ∈ colonT, n < 256 by decide) hb S5.out.st
                clear hr hb
                refine HX.mono ?_
                rintro e X6 ⟨rfl, h2, h3⟩
                have S6 := zH (S5.out.call h2 h3)
                clear h2 h3 HX S5
                go_wp2_with fail
                obtain ⟨r1, hp⟩ : ∃ r1, pL l f 1 (j4 + 1) = r1 := ⟨_, rfl⟩
                obtain ⟨y0, y1, c4, z1, z4, lg⟩ := S6.out.cells
                clear y0 y1 z1
                cases r1 with
                | out =>
                  exfalso
                  have hr := HR.out
                  rw [hp] at hr
                  exact HNE.out hr.symm
                | no j2 =>
                  have hr := HR.out
                  rw [hp] at hr
                  have hr1 : PR.no j2 = r := hr
                  subst hr1
                  have HX := zH (HC.out (j4 + 1) (X6.drewN 1) (.no j2) (S6.out.quiet ⟨1, rfl⟩).st hp (by simp))
                  clear hr hp
                  refine wp_region_held_drew (S := fun w' => w'.cell? ⟨g, 4, none⟩ = some (.slice (some ⟨b4, 0, none⟩) 1 cap4)) (by kernel_rfl) c4 (fun hHeld => ?_)
                  refine wpAnyH_take (i := 0) (v := ?_) rfl (by kernel_rfl) (by kernel_rfl) (by kernel_rfl) (fun _ _ _ h => h) (Or.inl ⟨by rfl, ?_⟩) (by assumption) ?_
                  rotate_left
                  · intro w hSw; (try dsimp only at hSw); go_simp; with_reducible rfl
                  try simp only [Act.put, List.setIfInBounds_toArray, List.set_cons_zero, List.set_cons_succ]
                  refine wpAnyH_take (i := 1) (v := ?_) rfl (by kernel_rfl) (by kernel_rfl) (by kernel_rfl) (fun _ _ _ h => h) (Or.inl ⟨by rfl, ?_⟩) (by assumption) ?_
                  rotate_left
                  · intro w hSw; (try dsimp only at hSw); go_simp; with_reducible rfl
                  try simp only [Act.put, List.setIfInBounds_toArray, List.set_cons_zero, List.set_cons_succ]
                  refine wpAnyH_take (i := 2) (v := ?_) rfl (by kernel_rfl) (by kernel_rfl) (by kernel_rfl) (fun _ _ _ h => h) (Or.inl ⟨by rfl, ?_⟩) (by assumption) ?_
                  rotate_left
                  · intro w hSw; (try dsimp only at hSw); go_simp; with_reducible rfl
                  try simp only [Act.put, List.setIfInBounds_toArray, List.set_cons_zero, List.set_cons_succ]
                  refine wpAnyH_take (i := 3) (v := ?_) rfl (by kernel_rfl) (by kernel_rfl) (by kernel_rfl) (fun _ _ _ h => h) (Or.inl ⟨by rfl, ?_⟩) (by assumption) ?_
                  rotate_left
                  · intro w hSw; (try dsimp only at hSw); go_simp; with_reducible rfl
                  try simp only [Act.put, List.setIfInBounds_toArray, List.set_cons_zero, List.set_cons_succ]
                  refine wpAnyH_take (i := 4) (v := ?_) rfl (by kernel_rfl) (by kernel_rfl) (by kernel_rfl) (fun _ _ _ h => h) (Or.inl ⟨by rfl, ?_⟩) (by assumption) ?_
                  rotate_left
                  · intro w hSw; (try dsimp only at hSw); go_simp; with_reducible rfl
                  try simp only [Act.put, List.setIfInBounds_toArray, List.set_cons_zero, List.set_cons_succ]
                  refine wpAnyH_take (i := 5) (v := ?_) rfl (by kernel_rfl) (by kernel_rfl) (by kernel_rfl) (fun _ _ _ h => h) (Or.inl ⟨by rfl, ?_⟩) (by assumption) ?_
                  rotate_left
                  · intro w hSw; (try dsimp only at hSw); go_simp; with_reducible rfl
                  try simp only [Act.put, List.setIfInBounds_toArray, List.set_cons_zero, List.set_cons_succ]
                  refine wpAnyH_ready (rs := [6]) (by kernel_rfl) (by simp) ?_
                  refine AllReadyH.cons rfl (fun K hK => ?_) AllReadyH.nil
                  go_simp
                  go_wp2_with (first
                    | (refine HX.out.mono ?_; rintro e w3 ⟨rfl, h1⟩; have M3 : Hid (Mv q W w3) := zH (S6.out.mv.trans ((Mv.quiet ⟨1, rfl⟩).trans h1)); clear h1))
                  exact ⟨rfl, rfl, M3.out⟩
                | ok t6 j6 =>
                  have hr := HR.out
                  rw [hp] at hr
                  simp only [PR.bind] at hr
                  clear HR
                  have HR := zH hr
                  have HX := zH (HC.out (j4 + 1) (X6.drewN 1) (.ok t6 j6) (S6.out.quiet ⟨1, rfl⟩).st hp (by simp))
                  obtain ⟨gs, hg1, hg2⟩ := S6.out.row
                  have hgl := hg2.len
                  have G1 := zH hg1
                  have G2 := zH hg2
                  have GL := zH hgl
                  clear hr hp hg1 hg2 hgl
                  refine' region_split (fun g1 w3 b cap w6 => WS q (some ⟨b0, off, none⟩) c sz l W g k tk.text [t4, t6] j6 w6 (.slice (some ⟨b, 0, none⟩) 2 cap)) _ ?_ ?_
                  rotate_left
                  · intro key
                    have KEY := zH key
                    clear key
                    go_region_law (first
                      | (go_simp; go_at_call 55; refine HX.out.mono ?_; rintro e w3 h2; obtain ⟨g1, rfl, h3, h4, h5⟩ := h2.get; have c43 : w3.cell? ⟨g, 4, none⟩ = some (.slice (some ⟨b4, 0, none⟩) 1 cap4) := h4.cell (by have := S6.out.ql; have := S6.out.lo; show q < g; omega) c4; have lg3 := cell_lt c43; have T3 := zH h3; have M3 := zH h4; have P3 := zH h5; clear h2 h3 h4 h5)
                      | (refine step_append_lies _ (by rfl) (.tmp 79) (.tmp 82) _ (by rfl) (g + 1) 103 jI (.pointer none) 1 8 Tryd.underlying124 I.out.1 I.out.2.1 I.out.2.2.1 I.out.2.2.2 rfl (by omega) (.slice (some ⟨b4, 0, none⟩) 1 cap4) 1 _ (by rfl) (S6.out.own4 G1.out ⟨1, rfl⟩ M3.out (.cells #[.pointer (some ⟨g1, 0, none⟩)] 103) 1 GL.out) ⟨w3.heap.size, 0, none⟩ 1 1 [.pointer (some ⟨g1, 0, none⟩)] (by rfl) (by rfl) (news1 w3 _ 103) (by simp [Value.oneCell']) (by omega) (by unfold maxLen; omega) (by omega) (by rw [World.size_alloc]; have : g < w3.heap.size := lg3; omega) (w3.heap.size + 1) (by rw [World.size_alloc]) ?_; intro b5 cap5 w5 hown hgrow hat hlt; have bx := S6.out.box5 ⟨1, rfl⟩ M3.out _ hgrow; have c45 : w5.cell? ⟨g, 4, none⟩ = some (.slice (some ⟨b4, 0, none⟩) 1 cap4) := bx.cell rfl; have z45 : w5.frozen? ⟨g, 4, none⟩ = false := bx.frozen 4; have A5 := zH (And.intro hown (And.intro hgrow hat)); clear hown hgrow hat hlt bx))
                    all_goals exact KEY.out g1 w3 b5 cap5 _ (S6.out.push ⟨1, rfl⟩ M3.out T3.out P3.out G1.out G2.out GL.out rfl A5.out.1 A5.out.2.1 A5.out.2.2 rfl)
                  · clear c4 z4 lg G1 G2 GL HX
                    intro g1 w3 b6 cap6 X7 h2
                    have S7 := zH h2
                    clear h2 S6
                    go_wp2_with fail
                    obtain ⟨b, hb⟩ : ∃ b, isT l j6 endT = b := ⟨_, rfl⟩
                    cases b with
                    | false =>
                      have hr := HR.out
                      rw [want_no hb] at hr
                      subst hr
                      have HX : Calls Tryd.prog 114 #[.pointer (some ⟨q, 0, none⟩), .string ⟨#[101, 110, 100]⟩] X7 fun e w' => e = .panicked (thrownE (placeAt l sz j6)) ∧ Quiet X7 w' := by rw [← lit_endT]; exact p_want_no endT (show ∀ n ∈ endT, n < 256 by decide) hb S7.out.st
                      refine HX.mono ?_
                      rintro e w2 ⟨rfl, q2⟩
                      exact ⟨rfl, rfl, S7.out.mv.trans (Mv.quiet q2)⟩
                    | true =>
                      have hr := HR.out
                      rw [want_yes hb] at hr
                      clear HR
                      have HR := zH hr
                      have HX : Calls Tryd.prog 114 #[.pointer (some ⟨q, 0, none⟩), .string ⟨#[101, 110, 100]⟩] X7 fun e w' => e = .returned (.tuple #[]) ∧ Mv q X7 w' ∧ PSt q (some ⟨b0, off, none⟩) c sz l (j6 + 1) w' := by rw [← lit_endT]; exact p_want_yes endT (show ∀ n ∈ endT, n < 256 by decide) hb S7.out.st
                      clear hr hb
                      refine HX.mono ?_
                      rintro e X8 ⟨rfl, h2, h3⟩
                      have S8 := zH (S7.out.call h2 h3)
                      clear h2 h3 HX S7
                      go_wp2_with fail
                      have hr := HR.out
                      subst hr
                      go_ret
                      exact S8.out.reads
      · have hr := HR.out
        unfold nameAt at hr
        have hno : r = .no (i + 1) := by
          rw [← hr]
          cases htk : l[i + 1]? with
          | none => rfl
          | some tk => exact if_neg fun e => hnm ⟨tk, htk, e⟩
        subst hno
        have HX := p_name_no (fun t ht e => hnm ⟨t, ht, e⟩) S1.out.st
        refine HX.mono ?_
        rintro e w2 ⟨rfl, q2⟩
        exact ⟨rfl, rfl, S1.out.mv.trans (Mv.quiet q2)⟩
    · have hr1 : ((pL l f 1 (i + 1)).bind fun a j => want l j thenT ((pL l f 1 (j + 1)).bind fun b m => want l m elseT ((pL l f 1 (m + 1)).bind fun c q => want l q endT (.ok (.node k [] 0 [a, b, c]) (q + 1))))) = r := hrr
      have HR := zH hr1
      clear hrr hr1
      go_enter Tryd.func113, Tryd.ntmps113
      go_wp2_with fail
      go_quiet ((go_at_call 115; with_reducible exact quiet_callw (ONE.out _)))
      go_wp2_with (first
        | (go_at_call 93; refine (p_of k [] _ _ _ _).mono ?_; rintro e w4 ⟨rfl, rfl⟩))
      generalize hwq : World.alloc (World.setCell _ _ _) _ = X1
      have S1 : Hid (WS q (some ⟨b0, off, none⟩) c sz l W W.heap.size k [] [] (i + 1) X1 (.slice none 0 0)) := zH (by rw [← hwq]; exact SW.out _)
      clear hwq
      obtain ⟨g, hg⟩ : ∃ g, W.heap.size = g := ⟨_, rfl⟩
      rw [hg] at S1 ⊢
      have HG := zH hg
      clear hg f0 f1 f2 f3 f4 t1
      obtain ⟨r1, hp⟩ : ∃ r1, pL l f 1 (i + 1) = r1 := ⟨_, rfl⟩
      obtain ⟨y0, y1, c4, z1, z4, lg⟩ := S1.out.cells
      clear y0 y1 z1
      cases r1 with
      | out =>
        exfalso
        have hr := HR.out
        rw [hp] at hr
        exact HNE.out hr.symm
      | no j2 =>
        have hr := HR.out
        rw [hp] at hr
        have hr1 : PR.no j2 = r := hr
        subst hr1
        have HX := zH (HC.out (i + 1) (X1.drewN 1) (.no j2) (S1.out.quiet ⟨1, rfl⟩).st hp (by simp))
        clear hr hp
        refine wp_region_held_drew (S := fun w' => w'.cell? ⟨g, 4, none⟩ = some (.slice none 0 0)) (by kernel_rfl) c4 (fun hHeld => ?_)
        refine wpAnyH_take (i := 0) (v := ?_) rfl (by kernel_rfl) (by kernel_rfl) (by kernel_rfl) (fun _ _ _ h => h) (Or.inl ⟨by rfl, ?_⟩) (by assumption) ?_
        rotate_left
        · intro w hSw; (try dsimp only at hSw); go_simp; with_reducible rfl
        try simp only [Act.put, List.setIfInBounds_toArray, List.set_cons_zero, List.set_cons_succ]
        refine wpAnyH_take (i := 1) (v := ?_) rfl (by kernel_rfl) (by kernel_rfl) (by kernel_rfl) (fun _ _ _ h => h) (Or.inl ⟨by rfl, ?_⟩) (by assumption) ?_
        rotate_left
        · intro w hSw; (try dsimp only at hSw); go_simp; with_reducible rfl
        try simp only [Act.put, List.setIfInBounds_toArray, List.set_cons_zero, List.set_cons_succ]
        refine wpAnyH_take (i := 2) (v := ?_) rfl (by kernel_rfl) (by kernel_rfl) (by kernel_rfl) (fun _ _ _ h => h) (Or.inl ⟨by rfl, ?_⟩) (by assumption) ?_
        rotate_left
        · intro w hSw; (try dsimp only at hSw); go_simp; with_reducible rfl
        try simp only [Act.put, List.setIfInBounds_toArray, List.set_cons_zero, List.set_cons_succ]
        refine wpAnyH_take (i := 3) (v := ?_) rfl (by kernel_rfl) (by kernel_rfl) (by kernel_rfl) (fun _ _ _ h => h) (Or.inl ⟨by rfl, ?_⟩) (by assumption) ?_
        rotate_left
        · intro w hSw; (try dsimp only at hSw); go_simp; with_reducible rfl
        try simp only [Act.put, List.setIfInBounds_toArray, List.set_cons_zero, List.set_cons_succ]
        refine wpAnyH_take (i := 4) (v := ?_) rfl (by kernel_rfl) (by kernel_rfl) (by kernel_rfl) (fun _ _ _ h => h) (Or.inl ⟨by rfl, ?_⟩) (by assumption) ?_
        rotate_left
        · intro w hSw; (try dsimp only at hSw); go_simp; with_reducible rfl
        try simp only [Act.put, List.setIfInBounds_toArray, List.set_cons_zero, List.set_cons_succ]
        refine wpAnyH_take (i := 5) (v := ?_) rfl (by kernel_rfl) (by kernel_rfl) (by kernel_rfl) (fun _ _ _ h => h) (Or.inl ⟨by rfl, ?_⟩) (by assumption) ?_
        rotate_left
        · intro w hSw; (try dsimp only at hSw); go_simp; with_reducible rfl
        try simp only [Act.put, List.setIfInBounds_toArray, List.set_cons_zero, List.set_cons_succ]
        refine wpAnyH_ready (rs := [6]) (by kernel_rfl) (by simp) ?_
        refine AllReadyH.cons rfl (fun K hK => ?_) AllReadyH.nil
        go_simp
        go_wp2_with (first
          | (refine HX.out.mono ?_; rintro e w3 ⟨rfl, h1⟩; have M3 : Hid (Mv q W w3) := zH (S1.out.mv.trans ((Mv.quiet ⟨1, rfl⟩).trans h1)); clear h1))
        exact ⟨rfl, rfl, M3.out⟩
      | ok t1 j1 =>
        have hr := HR.out
        rw [hp] at hr
        simp only [PR.bind] at hr
        clear HR
        have HR := zH hr
        have HX := zH (HC.out (i + 1) (X1.drewN 1) (.ok t1 j1) (S1.out.quiet ⟨1, rfl⟩).st hp (by simp))
        obtain ⟨gs, hg1, hg2⟩ := S1.out.row
        have hgl := hg2.len
        have G1 := zH hg1
        have G2 := zH hg2
        have GL := zH hgl
        clear hr hp hg1 hg2 hgl
        refine' region_split (fun g1 w3 b cap w6 => WS q (some ⟨b0, off, none⟩) c sz l W g k [] [t1] j1 w6 (.slice (some ⟨b, 0, none⟩) 1 cap)) _ ?_ ?_
        rotate_left
        · intro key
          have KEY := zH key
          clear key
          go_region_law (first
            | (go_simp; go_at_call 55; refine HX.out.mono ?_; rintro e w3 h2; obtain ⟨g1, rfl, h3, h4, h5⟩ := h2.get; have c43 : w3.cell? ⟨g, 4, none⟩ = some (.slice none 0 0) := h4.cell (by have := S1.out.ql; have := S1.out.lo; show q < g; omega) c4; have lg3 := cell_lt c43; have T3 := zH h3; have M3 := zH h4; have P3 := zH h5; clear h2 h3 h4 h5)
            | (refine step_append_lies _ (by rfl) (.tmp 94) (.tmp 97) _ (by rfl) (g + 1) 103 jI (.pointer none) 1 8 Tryd.underlying124 I.out.1 I.out.2.1 I.out.2.2.1 I.out.2.2.2 rfl (by omega) (.slice none 0 0) 0 _ (by rfl) (S1.out.own4 G1.out ⟨1, rfl⟩ M3.out (.cells #[.pointer (some ⟨g1, 0, none⟩)] 103) 0 GL.out) ⟨w3.heap.size, 0, none⟩ 1 1 [.pointer (some ⟨g1, 0, none⟩)] (by rfl) (by rfl) (news1 w3 _ 103) (by simp [Value.oneCell']) (by omega) (by unfold maxLen; omega) (by omega) (by rw [World.size_alloc]; have : g < w3.heap.size := lg3; omega) (w3.heap.size + 1) (by rw [World.size_alloc]) ?_; intro b5 cap5 w5 hown hgrow hat hlt; have bx := S1.out.box5 ⟨1, rfl⟩ M3.out _ hgrow; have c45 : w5.cell? ⟨g, 4, none⟩ = some (.slice none 0 0) := bx.cell rfl; have z45 : w5.frozen? ⟨g, 4, none⟩ = false := bx.frozen 4; have A5 := zH (And.intro hown (And.intro hgrow hat)); clear hown hgrow hat hlt bx))
          all_goals exact KEY.out g1 w3 b5 cap5 _ (S1.out.push ⟨1, rfl⟩ M3.out T3.out P3.out G1.out G2.out GL.out rfl A5.out.1 A5.out.2.1 A5.out.2.2 rfl)
        · clear c4 z4 lg G1 G2 GL HX
          intro g1 w3 b1 cap1 X2 h2
          have S2 := zH h2
          clear h2 S1
          go_wp2_with fail
          obtain ⟨b, hb⟩ : ∃ b, isT l j1 thenT = b := ⟨_, rfl⟩
          cases b with
          | false =>
            have hr := HR.out
            rw [want_no hb] at hr
            subst hr
            have HX : Calls Tryd.prog 114 #[.pointer (some ⟨q, 0, none⟩), .string ⟨#[116, 104, 101, 110]⟩] X2 fun e w' => e = .panicked (thrownE (placeAt l sz j1)) ∧ Quiet X2 w' := by rw [← lit_thenT]; exact p_want_no thenT (show ∀ n ∈ thenT, n < 256 by decide) hb S2.out.st
            refine HX.mono ?_
            rintro e w2 ⟨rfl, q2⟩
            exact ⟨rfl, rfl, S2.out.mv.trans (Mv.quiet q2)⟩
          | true =>
            have hr := HR.out
            rw [want_yes hb] at hr
            clear HR
            have HR := zH hr
            have HX : Calls Tryd.prog 114 #[.pointer (some ⟨q, 0, none⟩), .string ⟨#[116, 104, 101, 110]⟩] X2 fun e w' => e = .returned (.tuple #[]) ∧ Mv q X2 w' ∧ PSt q (some ⟨b0, off, none⟩) c sz l (j1 + 1) w' := by rw [← lit_thenT]; exact p_want_yes thenT (show ∀ n ∈ thenT, n < 256 by decide) hb S2.out.st
            clear hr hb
            refine HX.mono ?_
            rintro e X3 ⟨rfl, h2, h3⟩
            have S3 := zH (S2.out.call h2 h3)
            clear h2 h3 HX S2
            go_wp2_with fail
            obtain ⟨r1, hp⟩ : ∃ r1, pL l f 1 (j1 + 1) = r1 := ⟨_, rfl⟩
            obtain ⟨y0, y1, c4, z1, z4, lg⟩ := S3.out.cells
            clear y0 y1 z1
            cases r1 with
            | out =>
              exfalso
              have hr := HR.out
              rw [hp] at hr
              exact HNE.out hr.symm
            | no j2 =>
              have hr := HR.out
              rw [hp] at hr
              have hr1 : PR.no j2 = r := hr
              subst hr1
              have HX := zH (HC.out (j1 + 1) (X3.drewN 1) (.no j2) (S3.out.quiet ⟨1, rfl⟩).st hp (by simp))
              clear hr hp
              refine wp_region_held_drew (S := fun w' => w'.cell? ⟨g, 4, none⟩ = some (.slice (some ⟨b1, 0, none⟩) 1 cap1)) (by kernel_rfl) c4 (fun hHeld => ?_)
              refine wpAnyH_take (i := 0) (v := ?_) rfl (by kernel_rfl) (by kernel_rfl) (by kernel_rfl) (fun _ _ _ h => h) (Or.inl ⟨by rfl, ?_⟩) (by assumption) ?_
              rotate_left
              · intro w hSw; (try dsimp only at hSw); go_simp; with_reducible rfl
              try simp only [Act.put, List.setIfInBounds_toArray, List.set_cons_zero, List.set_cons_succ]
              refine wpAnyH_take (i := 1) (v := ?_) rfl (by kernel_rfl) (by kernel_rfl) (by kernel_rfl) (fun _ _ _ h => h) (Or.inl ⟨by rfl, ?_⟩) (by assumption) ?_
              rotate_left
              · intro w hSw; (try dsimp only at hSw); go_simp; with_reducible rfl
              try simp only [Act.put, List.setIfInBounds_toArray, List.set_cons_zero, List.set_cons_succ]
              refine wpAnyH_take (i := 2) (v := ?_) rfl (by kernel_rfl) (by kernel_rfl) (by kernel_rfl) (fun _ _ _ h => h) (Or.inl ⟨by rfl, ?_⟩) (by assumption) ?_
              rotate_left
              · intro w hSw; (try dsimp only at hSw); go_simp; with_reducible rfl
              try simp only [Act.put, List.setIfInBounds_toArray, List.set_cons_zero, List.set_cons_succ]
              refine wpAnyH_take (i := 3) (v := ?_) rfl (by kernel_rfl) (by kernel_rfl) (by kernel_rfl) (fun _ _ _ h => h) (Or.inl ⟨by rfl, ?_⟩) (by assumption) ?_
              rotate_left
              · intro w hSw; (try dsimp only at hSw); go_simp; with_reducible rfl
              try simp only [Act.put, List.setIfInBounds_toArray, List.set_cons_zero, List.set_cons_succ]
              refine wpAnyH_take (i := 4) (v := ?_) rfl (by kernel_rfl) (by kernel_rfl) (by kernel_rfl) (fun _ _ _ h => h) (Or.inl ⟨by rfl, ?_⟩) (by assumption) ?_
              rotate_left
              · intro w hSw; (try dsimp only at hSw); go_simp; with_reducible rfl
              try simp only [Act.put, List.setIfInBounds_toArray, List.set_cons_zero, List.set_cons_succ]
              refine wpAnyH_take (i := 5) (v := ?_) rfl (by kernel_rfl) (by kernel_rfl) (by kernel_rfl) (fun _ _ _ h => h) (Or.inl ⟨by rfl, ?_⟩) (by assumption) ?_
              rotate_left
              · intro w hSw; (try dsimp only at hSw); go_simp; with_reducible rfl
              try simp only [Act.put, List.setIfInBounds_toArray, List.set_cons_zero, List.set_cons_succ]
              refine wpAnyH_ready (rs := [6]) (by kernel_rfl) (by simp) ?_
              refine AllReadyH.cons rfl (fun K hK => ?_) AllReadyH.nil
              go_simp
              go_wp2_with (first
                | (refine HX.out.mono ?_; rintro e w3 ⟨rfl, h1⟩; have M3 : Hid (Mv q W w3) := zH (S3.out.mv.trans ((Mv.quiet ⟨1, rfl⟩).trans h1)); clear h1))
              exact ⟨rfl, rfl, M3.out⟩
            | ok t3 j3 =>
              have hr := HR.out
              rw [hp] at hr
              simp only [PR.bind] at hr
              clear HR
              have HR := zH hr
              have HX := zH (HC.out (j1 + 1) (X3.drewN 1) (.ok t3 j3) (S3.out.quiet ⟨1, rfl⟩).st hp (by simp))
              obtain ⟨gs, hg1, hg2⟩ := S3.out.row
              have hgl := hg2.len
              have G1 := zH hg1
              have G2 := zH hg2
              have GL := zH hgl
              clear hr hp hg1 hg2 hgl
              refine' region_split (fun g1 w3 b cap w6 => WS q (some ⟨b0, off, none⟩) c sz l W g k [] [t1, t3] j3 w6 (.slice (some ⟨b, 0, none⟩) 2 cap)) _ ?_ ?_
              rotate_left
              · intro key
                have KEY := zH key
                clear key
                go_region_law (first
                  | (go_simp; go_at_call 55; refine HX.out.mono ?_; rintro e w3 h2; obtain ⟨g1, rfl, h3, h4, h5⟩ := h2.get; have c43 : w3.cell? ⟨g, 4, none⟩ = some (.slice (some ⟨b1, 0, none⟩) 1 cap1) := h4.cell (by have := S3.out.ql; have := S3.out.lo; show q < g; omega) c4; have lg3 := cell_lt c43; have T3 := zH h3; have M3 := zH h4; have P3 := zH h5; clear h2 h3 h4 h5)
                  | (refine step_append_lies _ (by rfl) (.tmp 107) (.tmp 110) _ (by rfl) (g + 1) 103 jI (.pointer none) 1 8 Tryd.underlying124 I.out.1 I.out.2.1 I.out.2.2.1 I.out.2.2.2 rfl (by omega) (.slice (some ⟨b1, 0, none⟩) 1 cap1) 1 _ (by rfl) (S3.out.own4 G1.out ⟨1, rfl⟩ M3.out (.cells #[.pointer (some ⟨g1, 0, none⟩)] 103) 1 GL.out) ⟨w3.heap.size, 0, none⟩ 1 1 [.pointer (some ⟨g1, 0, none⟩)] (by rfl) (by rfl) (news1 w3 _ 103) (by simp [Value.oneCell']) (by omega) (by unfold maxLen; omega) (by omega) (by rw [World.size_alloc]; have : g < w3.heap.size := lg3; omega) (w3.heap.size + 1) (by rw [World.size_alloc]) ?_; intro b5 cap5 w5 hown hgrow hat hlt; have bx := S3.out.box5 ⟨1, rfl⟩ M3.out _ hgrow; have c45 : w5.cell? ⟨g, 4, none⟩ = some (.slice (some ⟨b1, 0, none⟩) 1 cap1) := bx.cell rfl; have z45 : w5.frozen? ⟨g, 4, none⟩ = false := bx.frozen 4; have A5 := zH (And.intro hown (And.intro hgrow hat)); clear hown hgrow hat hlt bx))
                all_goals exact KEY.out g1 w3 b5 cap5 _ (S3.out.push ⟨1, rfl⟩ M3.out T3.out P3.out G1.out G2.out GL.out rfl A5.out.1 A5.out.2.1 A5.out.2.2 rfl)
              · clear c4 z4 lg G1 G2 GL HX
                intro g1 w3 b3 cap3 X4 h2
                have S4 := zH h2
                clear h2 S3
                go_wp2_with fail
                obtain ⟨b, hb⟩ : ∃ b, isT l j3 elseT = b := ⟨_, rfl⟩
                cases b with
                | false =>
                  have hr := HR.out
                  rw [want_no hb] at hr
                  subst hr
                  have HX : Calls Tryd.prog 114 #[.pointer (some ⟨q, 0, none⟩), .string ⟨#[101, 108, 115, 101]⟩] X4 fun e w' => e = .panicked (thrownE (placeAt l sz j3)) ∧ Quiet X4 w' := by rw [← lit_elseT]; exact p_want_no elseT (show ∀ n ∈ elseT, n < 256 by decide) hb S4.out.st
                  refine HX.mono ?_
                  rintro e w2 ⟨rfl, q2⟩
                  exact ⟨rfl, rfl, S4.out.mv.trans (Mv.quiet q2)⟩
                | true =>
                  have hr := HR.out
                  rw [want_yes hb] at hr
                  clear HR
                  have HR := zH hr
                  have HX : Calls Tryd.prog 114 #[.pointer (some ⟨q, 0, none⟩), .string ⟨#[101, 108, 115, 101]⟩] X4 fun e w' => e = .returned (.tuple #[]) ∧ Mv q X4 w' ∧ PSt q (some ⟨b0, off, none⟩) c sz l (j3 + 1) w' := by rw [← lit_elseT]; exact p_want_yes elseT (show ∀ n ∈ elseT, n < 256 by decide) hb S4.out.st
                  clear hr hb
                  refine HX.mono ?_
                  rintro e X5 ⟨rfl, h2, h3⟩
                  have S5 := zH (S4.out.call h2 h3)
                  clear h2 h3 HX S4
                  go_wp2_with fail
                  obtain ⟨r1, hp⟩ : ∃ r1, pL l f 1 (j3 + 1) = r1 := ⟨_, rfl⟩
                  obtain ⟨y0, y1, c4, z1, z4, lg⟩ := S5.out.cells
                  clear y0 y1 z1
                  cases r1 with
                  | out =>
                    exfalso
                    have hr := HR.out
                    rw [hp] at hr
                    exact HNE.out hr.symm
                  | no j2 =>
                    have hr := HR.out
                    rw [hp] at hr
                    have hr1 : PR.no j2 = r := hr
                    subst hr1
                    have HX := zH (HC.out (j3 + 1) (X5.drewN 1) (.no j2) (S5.out.quiet ⟨1, rfl⟩).st hp (by simp))
                    clear hr hp
                    refine wp_region_held_drew (S := fun w' => w'.cell? ⟨g, 4, none⟩ = some (.slice (some ⟨b3, 0, none⟩) 2 cap3)) (by kernel_rfl) c4 (fun hHeld => ?_)
                    refine wpAnyH_take (i := 0) (v := ?_) rfl (by kernel_rfl) (by kernel_rfl) (by kernel_rfl) (fun _ _ _ h => h) (Or.inl ⟨by rfl, ?_⟩) (by assumption) ?_
                    rotate_left
                    · intro w hSw; (try dsimp only at hSw); go_simp; with_reducible rfl
                    try simp only [Act.put, List.setIfInBounds_toArray, List.set_cons_zero, List.set_cons_succ]
                    refine wpAnyH_take (i := 1) (v := ?_) rfl (by kernel_rfl) (by kernel_rfl) (by kernel_rfl) (fun _ _ _ h => h) (Or.inl ⟨by rfl, ?_⟩) (by assumption) ?_
                    rotate_left
                    · intro w hSw; (try dsimp only at hSw); go_simp; with_reducible rfl
                    try simp only [Act.put, List.setIfInBounds_toArray, List.set_cons_zero, List.set_cons_succ]
                    refine wpAnyH_take (i := 2) (v := ?_) rfl (by kernel_rfl) (by kernel_rfl) (by kernel_rfl) (fun _ _ _ h => h) (Or.inl ⟨by rfl, ?_⟩) (by assumption) ?_
                    rotate_left
                    · intro w hSw; (try dsimp only at hSw); go_simp; with_reducible rfl
                    try simp only [Act.put, List.setIfInBounds_toArray, List.set_cons_zero, List.set_cons_succ]
                    refine wpAnyH_take (i := 3) (v := ?_) rfl (by kernel_rfl) (by kernel_rfl) (by kernel_rfl) (fun _ _ _ h => h) (Or.inl ⟨by rfl, ?_⟩) (by assumption) ?_
                    rotate_left
                    · intro w hSw; (try dsimp only at hSw); go_simp; with_reducible rfl
                    try simp only [Act.put, List.setIfInBounds_toArray, List.set_cons_zero, List.set_cons_succ]
                    refine wpAnyH_take (i := 4) (v := ?_) rfl (by kernel_rfl) (by kernel_rfl) (by kernel_rfl) (fun _ _ _ h => h) (Or.inl ⟨by rfl, ?_⟩) (by assumption) ?_
                    rotate_left
                    · intro w hSw; (try dsimp only at hSw); go_simp; with_reducible rfl
                    try simp only [Act.put, List.setIfInBounds_toArray, List.set_cons_zero, List.set_cons_succ]
                    refine wpAnyH_take (i := 5) (v := ?_) rfl (by kernel_rfl) (by kernel_rfl) (by kernel_rfl) (fun _ _ _ h => h) (Or.inl ⟨by rfl, ?_⟩) (by assumption) ?_
                    rotate_left
                    · intro w hSw; (try dsimp only at hSw); go_simp; with_reducible rfl
                    try simp only [Act.put, List.setIfInBounds_toArray, List.set_cons_zero, List.set_cons_succ]
                    refine wpAnyH_ready (rs := [6]) (by kernel_rfl) (by simp) ?_
                    refine AllReadyH.cons rfl (fun K hK => ?_) AllReadyH.nil
                    go_simp
                    go_wp2_with (first
                      | (refine HX.out.mono ?_; rintro e w3 ⟨rfl, h1⟩; have M3 : Hid (Mv q W w3) := zH (S5.out.mv.trans ((Mv.quiet ⟨1, rfl⟩).trans h1)); clear h1))
                    exact ⟨rfl, rfl, M3.out⟩
                  | ok t5 j5 =>
                    have hr := HR.out
                    rw [hp] at hr
                    simp only [PR.bind] at hr
                    clear HR
                    have HR := zH hr
                    have HX := zH (HC.out (j3 + 1) (X5.drewN 1) (.ok t5 j5) (S5.out.quiet ⟨1, rfl⟩).st hp (by simp))
                    obtain ⟨gs, hg1, hg2⟩ := S5.out.row
                    have hgl := hg2.len
                    have G1 := zH hg1
                    have G2 := zH hg2
                    have GL := zH hgl
                    clear hr hp hg1 hg2 hgl
                    refine' region_split (fun g1 w3 b cap w6 => WS q (some ⟨b0, off, none⟩) c sz l W g k [] [t1, t3, t5] j5 w6 (.slice (some ⟨b, 0, none⟩) 3 cap)) _ ?_ ?_
                    rotate_left
                    · intro key
                      have KEY := zH key
                      clear key
                      go_region_law (first
                        | (go_simp; go_at_call 55; refine HX.out.mono ?_; rintro e w3 h2; obtain ⟨g1, rfl, h3, h4, h5⟩ := h2.get; have c43 : w3.cell? ⟨g, 4, none⟩ = some (.slice (some ⟨b3, 0, none⟩) 2 cap3) := h4.cell (by have := S5.out.ql; have := S5.out.lo; show q < g; omega) c4; have lg3 := cell_lt c43; have T3 := zH h3; have M3 := zH h4; have P3 := zH h5; clear h2 h3 h4 h5)
                        | (refine step_append_lies _ (by rfl) (.tmp 120) (.tmp 123) _ (by rfl) (g + 1) 103 jI (.pointer none) 1 8 Tryd.underlying124 I.out.1 I.out.2.1 I.out.2.2.1 I.out.2.2.2 rfl (by omega) (.slice (some ⟨b3, 0, none⟩) 2 cap3) 2 _ (by rfl) (S5.out.own4 G1.out ⟨1, rfl⟩ M3.out (.cells #[.pointer (some ⟨g1, 0, none⟩)] 103) 2 GL.out) ⟨w3.heap.size, 0, none⟩ 1 1 [.pointer (some ⟨g1, 0, none⟩)] (by rfl) (by rfl) (news1 w3 _ 103) (by simp [Value.oneCell']) (by omega) (by unfold maxLen; omega) (by omega) (by rw [World.size_alloc]; have : g < w3.heap.size := lg3; omega) (w3.heap.size + 1) (by rw [World.size_alloc]) ?_; intro b5 cap5 w5 hown hgrow hat hlt; have bx := S5.out.box5 ⟨1, rfl⟩ M3.out _ hgrow; have c45 : w5.cell? ⟨g, 4, none⟩ = some (.slice (some ⟨b3, 0, none⟩) 2 cap3) := bx.cell rfl; have z45 : w5.frozen? ⟨g, 4, none⟩ = false := bx.frozen 4; have A5 := zH (And.intro hown (And.intro hgrow hat)); clear hown hgrow hat hlt bx))
                      all_goals exact KEY.out g1 w3 b5 cap5 _ (S5.out.push ⟨1, rfl⟩ M3.out T3.out P3.out G1.out G2.out GL.out rfl A5.out.1 A5.out.2.1 A5.out.2.2 rfl)
                    · clear c4 z4 lg G1 G2 GL HX
                      intro g1 w3 b5 cap5 X6 h2
                      have S6 := zH h2
                      clear h2 S5
                      go_wp2_with fail
                      obtain ⟨b, hb⟩ : ∃ b, isT l j5 endT = b := ⟨_, rfl⟩
                      cases b with
                      | false =>
                        have hr := HR.out
                        rw [want_no hb] at hr
                        subst hr
                        have HX : Calls Tryd.prog 114 #[.pointer (some ⟨q, 0, none⟩), .string ⟨#[101, 110, 100]⟩] X6 fun e w' => e = .panicked (thrownE (placeAt l sz j5)) ∧ Quiet X6 w' := by rw [← lit_endT]; exact p_want_no endT (show ∀ n ∈ endT, n < 256 by decide) hb S6.out.st
                        refine HX.mono ?_
                        rintro e w2 ⟨rfl, q2⟩
                        exact ⟨rfl, rfl, S6.out.mv.trans (Mv.quiet q2)⟩
                      | true =>
                        have hr := HR.out
                        rw [want_yes hb] at hr
                        clear HR
                        have HR := zH hr
                        have HX : Calls Tryd.prog 114 #[.pointer (some ⟨q, 0, none⟩), .string ⟨#[101, 110, 100]⟩] X6 fun e w' => e = .returned (.tuple #[]) ∧ Mv q X6 w' ∧ PSt q (some ⟨b0, off, none⟩) c sz l (j5 + 1) w' := by rw [← lit_endT]; exact p_want_yes endT (show ∀ n ∈ endT, n < 256 by decide) hb S6.out.st
                        clear hr hb
                        refine HX.mono ?_
                        rintro e X7 ⟨rfl, h2, h3⟩
                        have S7 := zH (S6.out.call h2 h3)
                        clear h2 h3 HX S6
                        go_wp2_with fail
                        have hr := HR.out
                        subst hr
                        go_ret
                        exact S7.out.reads
end
end Go.Proofs.YtpkggobhhieeoaaDoor
