/- - -/
import Derived.Test.YtpkggobhhieeoaaDoorKMBuild
import Derived.Test.YtpkggobhhieeoaaDoorKM9
set_option maxRecDepth 100000
set_option maxHeartbeats 32000000
set_option linter.unusedSimpArgs false
set_option linter.unusedVariables false
namespace Go.Proofs.YtpkggobhhieeoaaDoor
open Go.RowKit
section
variable {q : Nat} {s : ByteArray} {v : Value} {i : Nat} {W X X' : World}
theorem Mv.onto (h : Mv q W X) (hb : Below W.heap.size X X') (hq : q ≤ W.heap.size) : Mv q W X' := ⟨h.low.trans (hb.mono hq), fun k h1 h2 => (hb.block k h2).trans (h.high k h1 h2)⟩
theorem RdS.onto {B : Nat} (h : RdS q s v i X) (hb : Below B X X') (hq : q < B) : RdS q s v i X' := h.mv (hb.mono (Nat.le_of_lt hq)) (h.box.below hb hq) h.le
theorem Own1.mv {α : Type} {base size : Nat} {e : TypeId} {R : List Value → α → Prop} {u : Value} {l : List α} (h : Own1 X base e size R u l) (hm : Mv q X X') (hq : q < base) : Own1 X' base e size R u l :=
  h.stay (fun b hb hl => hm.high b (by have := (h.block b hb).1; omega) hl)
theorem t_word {R : (List Nat × Nat) ⊕ Nat} (hR : wordS (bs s) s.size i [] = R) (h : RdS q s v i W) : Calls Tryd.prog 18 #[.pointer (some ⟨q, 0, none⟩)] W (TReads q s v W txtV R) := by
  obtain ⟨jb, hi, hz, hsz, hby⟩ := info_parts info_byte
  have I := zH (And.intro hi (And.intro hz (And.intro hsz hby)))
  clear hi hz hsz hby
  obtain ⟨n, hn⟩ : ∃ n, s.size = n := ⟨_, rfl⟩
  have hln : (bs s).length = n := by rw [bs_len, hn]
  have hn' : (s.size : Int) = (n : Int) := by rw [hn]
  obtain ⟨f0, f1, f2, f3, f4, f5⟩ := h.facts
  have QL := zH f5
  have hle := h.le
  have hfew := h.few
  rw [hn] at hle hfew hR
  have HR := zH hR
  have Hln := zH hln
  have Hn := zH hn
  have H := zH h
  have NX : Hid (∀ (k : Nat) (b : Bool) (X : World), RdS q s v k X → (decide ((bs s)[k]? = some 123) && decide ((bs s)[k + 1]? = some 123)) = b → Calls Tryd.prog 15 #[.pointer (some ⟨q, 0, none⟩), .string ⟨#[123, 123]⟩] X fun e w' => e = .returned (.bool b) ∧ Quiet X w') := zH (fun k b X hX hb => t_next ⟨#[123, 123]⟩ (by decide) b (by rw [next_two (c := 123) rfl]; exact hb) hX)
  clear hR hln hn h
  go_enter Tryd.func18, Tryd.ntmps18
  go_wp2_with fail
  clear f0 f1 f2 f3 f4 f5
  go_loopg [3, 4] n (fun gk bv _ wr => ∃ (k : Nat) (out : List Nat), k ≤ n ∧ n ≤ gk + k ∧ Hid (wordS (bs s) gk k out = R) ∧ Hid (Mv q W wr) ∧ Hid (RdS q s v k wr) ∧ Hid (Own1 wr W.heap.size 5 1 IsByte bv out) ∧ out.length ≤ k)
  case atStart => exact ⟨i, [], hle, by omega, HR, zH (Mv.refl _ _), H, zH ⟨[], World.ownsRow_nil _ _ _ _, FlatR.nil_⟩, by simp⟩
  case round =>
    obtain ⟨k, out, hkn, hfk, hu, hm, hp, ho, hol⟩ := hrel
    obtain ⟨f0, f1, f2, f3, f4, f5⟩ := hp.out.facts
    have k0 : (0 : Int) ≤ (k : Int) := Int.natCast_nonneg _
    by_cases hlt : k < n
    · have hks : k < s.size := by rw [Hn.out]; exact hlt
      obtain ⟨c, hc, c256⟩ := get_bs hks
      have ix := fun W => index_txt W 9 Tryd.underlying9 hc .i64 _ rfl
      have d1 : decide (k < n) = true := by simpa using hlt
      have k2 : (k : Int) + 1 ≤ (n : Int) := by omega
      have k3 : (k : Int) < (n : Int) := by omega
      have HC := zH hc
      clear hc
      go_wp2_with fail
      go_quiet (fail)
      go_wp2_with fail
      go_quiet (fail)
      generalize hws : World.drewN _ _ = ws
      have Pws : Hid (RdS q s v k ws) := zH (by rw [← hws]; first | exact hp.out.quiet ⟨_, rfl⟩ | exact hp.out.quiet (Quiet.drewN ⟨_, rfl⟩ _))
      have Mws : Hid (Mv q W ws) := zH (by rw [← hws]; first | exact hm.out.trans (Mv.quiet ⟨_, rfl⟩) | exact hm.out.trans (Mv.quiet (Quiet.drewN ⟨_, rfl⟩ _)))
      have Ows : Hid (Own1 ws W.heap.size 5 1 IsByte u3 out) := zH (by rw [← hws]; first | exact ho.out.drewN _ | exact (ho.out.drewN _).drewN _)
      clear hws f0 f1 f2 f3 f4 f5
      obtain ⟨g0, g1, g2, g3, g4, g5⟩ := Pws.out.facts
      by_cases c1 : c = 123
      · subst c1
        by_cases c2 : (bs s)[k + 1]? = some 123
        · have N1 := zH (NX.out k true ws Pws.out (by rw [HC.out, c2]; rfl))
          have hv := word_two hu.out (by have := (List.getElem?_eq_some_iff.1 c2).1; rw [Hln.out] at this; omega) HC.out (.inl rfl) c2
          have HV := zH hv
          have k4 : k + 2 ≤ n := by have := (List.getElem?_eq_some_iff.1 c2).1; rw [Hln.out] at this; omega
          have ST := zH (fun nq => Pws.out.step (j := k + 1) (u := .int .i64 ((k : Int) + 1)) (by go_num) (by rw [Hn.out]; exact hlt) nq)
          have MY : Hid (∀ X, RdS q s v (k + 1) X → Calls Tryd.prog 17 #[.pointer (some ⟨q, 0, none⟩), .string (Utf8.encode 123)] X fun e w' => e = .returned (.tuple #[]) ∧ Mv q X w' ∧ RdS q s v (k + 2) w') := zH (fun X hX => t_must_yes (Utf8.encode 123) (c := 123) (by decide) c2 hX)
          clear hv c2
          go_wp2_with (first
            | (go_at_call 15; (with_reducible refine N1.out.mono ?_); rintro e w1 ⟨rfl, nq, rfl⟩)
            | (go_at_call 17; (with_reducible refine (MY.out _ (ST.out nq).2).mono ?_); rintro e w2 ⟨rfl, h1, h2⟩; have M2 := zH ((Mws.out.trans (ST.out nq).1).trans h1); have P2 := zH h2; have O2 := zH (((Ows.out.drewN nq).setFar (p := ⟨q, 1, none⟩) QL.out _).mv h1 QL.out); have hszw2 : W.heap.size ≤ w2.heap.size := M2.out.low.size; clear h1 h2)
            | (at_builtin
               go_must (refine wpList_append_bytes rfl (.tmp 48) (.tmp 50) _ rfl W.heap.size (w2.heap.size + 1) 5 jb Tryd.underlying50 I.out.1 I.out.2.1 I.out.2.2.1 I.out.2.2.2 (l := out) (m := [123]) u3 rfl (by exact O2.out.alloc _) (some ⟨w2.heap.size, 0, none⟩) 1 1 rfl (by exact bytes_row (xs := [.int .u8 (123 : Int)]) rfl rfl (fun m hm => by simp at hm; omega) (by simp [maxLen]) 1 1 rfl rfl) (by omega) (by rw [World.size_alloc]; omega) ?_)
               intro xa xn xc w4 hown hb4
               have hbb : Below W.heap.size w2 w4 := (((Below.refl W.heap.size w2).alloc hszw2 _).trans hb4)
               have M4 := zH (M2.out.onto hbb (Nat.le_of_lt QL.out))
               have P4 := zH (P2.out.onto hbb QL.out)
               have O4 := zH hown
               clear hown hb4 hbb))
          go_roundg (gk - 1)
          case measure => omega
          case rel => exact ⟨k + 2, out ++ [123], k4, by omega, HV.out, M4, P4, O4, by rw [List.length_append, List.length_singleton]; omega⟩
        · have hv := word_end hu.out (fun c hc => by rw [HC.out] at hc; injection hc with hc; exact ⟨hc.symm, c2⟩)
          have N1 := zH (NX.out k false ws Pws.out (by rw [HC.out]; simpa using c2))
          subst hv
          clear c2
          go_wp2_with (go_at_call 15; (with_reducible refine N1.out.mono ?_); rintro e w1 ⟨rfl, nq, rfl⟩; have hcv := run_text_of_row 50 9 5 Tryd.underlying50 Tryd.underlying5 Tryd.underlying9 (Ows.out.drewN nq))
          go_ret
          exact ⟨rfl, Mws.out.trans (Mv.quiet ⟨_, rfl⟩), Pws.out.quiet ⟨_, rfl⟩⟩
      · have e1 : ((c : Int) == 123) = false := by simp; omega
        have ST0 : Hid (Mv q ws (ws.setCell ⟨q, 1, none⟩ (.int .i64 ((k : Int) + 1))) ∧ RdS q s v (k + 1) (ws.setCell ⟨q, 1, none⟩ (.int .i64 ((k : Int) + 1)))) := zH (Pws.out.step (j := k + 1) (u := .int .i64 ((k : Int) + 1)) (by go_num) (by rw [Hn.out]; exact hlt) 0)
        by_cases c3 : c = 125
        · subst c3
          by_cases c2 : (bs s)[k + 1]? = some 125
          · have hv := word_two hu.out (by have := (List.getElem?_eq_some_iff.1 c2).1; rw [Hln.out] at this; omega) HC.out (.inr rfl) c2
            have HV := zH hv
            have k4 : k + 2 ≤ n := by have := (List.getElem?_eq_some_iff.1 c2).1; rw [Hln.out] at this; omega
            have MY : Hid (∀ X, RdS q s v (k + 1) X → Calls Tryd.prog 17 #[.pointer (some ⟨q, 0, none⟩), .string (Utf8.encode 125)] X fun e w' => e = .returned (.tuple #[]) ∧ Mv q X w' ∧ RdS q s v (k + 2) w') := zH (fun X hX => t_must_yes (Utf8.encode 125) (c := 125) (by decide) c2 hX)
            clear hv c2
            go_wp2_with (first
              | (go_at_call 17; (with_reducible refine (MY.out _ (ST0.out).2).mono ?_); rintro e w2 ⟨rfl, h1, h2⟩; have M2 := zH ((Mws.out.trans (ST0.out).1).trans h1); have P2 := zH h2; have O2 := zH ((Ows.out.setFar (p := ⟨q, 1, none⟩) QL.out _).mv h1 QL.out); have hszw2 : W.heap.size ≤ w2.heap.size := M2.out.low.size; clear h1 h2)
              | (at_builtin
                 go_must (refine wpList_append_bytes rfl (.tmp 48) (.tmp 50) _ rfl W.heap.size (w2.heap.size + 1) 5 jb Tryd.underlying50 I.out.1 I.out.2.1 I.out.2.2.1 I.out.2.2.2 (l := out) (m := [125]) u3 rfl (by exact O2.out.alloc _) (some ⟨w2.heap.size, 0, none⟩) 1 1 rfl (by exact bytes_row (xs := [.int .u8 (125 : Int)]) rfl rfl (fun m hm => by simp at hm; omega) (by simp [maxLen]) 1 1 rfl rfl) (by omega) (by rw [World.size_alloc]; omega) ?_)
                 intro xa xn xc w4 hown hb4
                 have hbb : Below W.heap.size w2 w4 := (((Below.refl W.heap.size w2).alloc hszw2 _).trans hb4)
                 have M4 := zH (M2.out.onto hbb (Nat.le_of_lt QL.out))
                 have P4 := zH (P2.out.onto hbb QL.out)
                 have O4 := zH hown
                 clear hown hb4 hbb))
            go_roundg (gk - 1)
            case measure => omega
            case rel => exact ⟨k + 2, out ++ [125], k4, by omega, HV.out, M4, P4, O4, by rw [List.length_append, List.length_singleton]; omega⟩
          · have hv := word_no hu.out (by omega) HC.out (fun ⟨a, _⟩ => c1 a) (.inr rfl) c2
            subst hv
            have MN : Hid (∀ X, RdS q s v (k + 1) X → Calls Tryd.prog 17 #[.pointer (some ⟨q, 0, none⟩), .string (Utf8.encode 125)] X fun e w' => e = .panicked (thrownT (k + 1) 200) ∧ Quiet X w') := zH (fun X hX => t_must_no (Utf8.encode 125) (c := 125) (by decide) c2 hX)
            clear c2
            go_wp2_with (go_at_call 17; (with_reducible refine (MN.out _ ST0.out.2).mono ?_); rintro e w2 ⟨rfl, h1⟩; have M2 := zH ((Mws.out.trans ST0.out.1).trans (Mv.quiet h1)); clear h1)
            exact ⟨rfl, rfl, M2.out⟩
        · have e2 : ((c : Int) == 125) = false := by simp; omega
          have hv := word_one hu.out (by omega) HC.out (by omega)
          have HV := zH hv
          have P2 : Hid (RdS q s v (k + 1) (ws.setCell ⟨q, 1, none⟩ (.int .i64 ((k : Int) + 1)))) := zH ST0.out.2
          have M2 : Hid (Mv q W (ws.setCell ⟨q, 1, none⟩ (.int .i64 ((k : Int) + 1)))) := zH (Mws.out.trans ST0.out.1)
          have O2 : Hid (Own1 (ws.setCell ⟨q, 1, none⟩ (.int .i64 ((k : Int) + 1))) W.heap.size 5 1 IsByte u3 out) := zH (Ows.out.setFar (p := ⟨q, 1, none⟩) QL.out _)
          have hszw2 : W.heap.size ≤ (ws.setCell ⟨q, 1, none⟩ (.int .i64 ((k : Int) + 1))).heap.size := M2.out.low.size
          clear hv c1 c3
          go_upto_region 8 with fail
          generalize World.setCell _ _ _ = w2 at *
          go_wp2_with (first
            | (at_builtin
               go_must (refine wpList_append_bytes rfl (.tmp 48) (.tmp 50) _ rfl W.heap.size (w2.heap.size + 1) 5 jb Tryd.underlying50 I.out.1 I.out.2.1 I.out.2.2.1 I.out.2.2.2 (l := out) (m := [c]) u3 rfl (by exact O2.out.alloc _) (some ⟨w2.heap.size, 0, none⟩) 1 1 rfl (by exact bytes_row (xs := [.int .u8 (c : Int)]) rfl rfl (fun m hm => by simp at hm; omega) (by simp [maxLen]) 1 1 rfl rfl) (by omega) (by rw [World.size_alloc]; omega) ?_)
               intro xa xn xc w4 hown hb4
               have hbb : Below W.heap.size w2 w4 := (((Below.refl W.heap.size w2).alloc hszw2 _).trans hb4)
               have M4 := zH (M2.out.onto hbb (Nat.le_of_lt QL.out))
               have P4 := zH (P2.out.onto hbb QL.out)
               have O4 := zH hown
               clear hown hb4 hbb))
          go_roundg (gk - 1)
          case measure => omega
          case rel => exact ⟨k + 1, out ++ [c], by omega, by omega, HV.out, M4, P4, O4, by rw [List.length_append, List.length_singleton]; omega⟩
    · have d1 : decide (k < n) = false := by simpa using hlt
      have hv := word_end hu.out (fun c hc => by rw [List.getElem?_eq_none (by rw [Hln.out]; omega)] at hc; cases hc)
      subst hv
      go_wp2_with fail
      go_quiet (fail)
      generalize hws : World.drewN _ _ = ws
      have Pws : Hid (RdS q s v k ws) := zH (by rw [← hws]; first | exact hp.out.quiet ⟨_, rfl⟩ | exact hp.out.quiet (Quiet.drewN ⟨_, rfl⟩ _))
      have Mws : Hid (Mv q W ws) := zH (by rw [← hws]; first | exact hm.out.trans (Mv.quiet ⟨_, rfl⟩) | exact hm.out.trans (Mv.quiet (Quiet.drewN ⟨_, rfl⟩ _)))
      have Ows : Hid (Own1 ws W.heap.size 5 1 IsByte u3 out) := zH (by rw [← hws]; first | exact ho.out.drewN _ | exact (ho.out.drewN _).drewN _)
      clear hws f0 f1 f2 f3 f4 f5
      have hcv := run_text_of_row 50 9 5 Tryd.underlying50 Tryd.underlying5 Tryd.underlying9 Ows.out
      go_wp2_with fail
      go_ret
      exact ⟨rfl, Mws.out, Pws.out⟩
end
end Go.Proofs.YtpkggobhhieeoaaDoor
