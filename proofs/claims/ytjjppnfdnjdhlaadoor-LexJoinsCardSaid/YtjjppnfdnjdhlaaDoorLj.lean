/- The law's walk: 'topiarylaw07.LexJoins' returns true whatever the tokens; the variables hold what the texts lay. -/
import Derived.Test.YtjjppnfdnjdhlaaDoorJoin
import Derived.Test.YtjjppnfdnjdhlaaDoorAlike
namespace Go.Proofs.YtjjppnfdnjdhlaaDoor
open Go.RowKit

set_option maxRecDepth 100000 in
set_option maxHeartbeats 8000000 in
theorem joins_walk {l : List Tok} {v : Value} (w : World) (hs : SlR w w.heap.size 4 Tok.Is v l) (hfit : l.length * 40 ≤ 140737488355328) (hbig : ∀ t ∈ l, t.text.length ≤ 281474976710656) (hm : Marks w) (hp : Pow w) :
    Calls Tryd.prog 4 #[v] w fun e w' => e = .returned (.bool true) ∧ Below w.heap.size w w' := by
  obtain ⟨j, hi, hz, hsz, hby⟩ := info_parts info_tok
  have I := Lib.hid (And.intro hi (And.intro hz (And.intro hsz hby)))
  clear hi hz hsz hby
  obtain ⟨a, c, rfl⟩ : ∃ a c, v = .slice a l.length c := by obtain ⟨a, c, h, _⟩ := hs.form; exact ⟨a, c, h⟩
  obtain ⟨R, hR⟩ : ∃ R, joinN l = R := ⟨_, rfl⟩
  have JA : Hid (∀ (v' : Value) (W : World), Below w.heap.size w W → SlR W W.heap.size 4 Tok.Is v' l → Calls Tryd.prog 12 #[v'] W fun e w' => e = .returned (.tuple #[.string (txt R.1), .int .i64 (R.2 : Int)]) ∧ Below W.heap.size W w') := Lib.hid (fun v' W hW h => hR ▸ join_any W W h (Below.refl _ _) hbig (hm.below hW) (hp.below hW))
  have JR : Hid (∀ W, Below w.heap.size w W → Calls Tryd.prog 13 #[.slice a l.length c] W fun e w' => e = .returned (.tuple #[.string (txt R.1), .int .i64 (R.2 : Int)]) ∧ Below W.heap.size W w') := Lib.hid (fun W hW => hR ▸ ref_join W w hs hW hbig)
  have hcap := hs.caps.2
  have hle := hs.caps.1
  obtain ⟨n, hlen⟩ : ∃ n, l.length = n := ⟨_, rfl⟩
  have Hlen := Lib.hid hlen
  rw [hlen] at hs hfit hle JR ⊢
  have Hs := Lib.hid hs
  obtain ⟨r1, r2⟩ := R
  unfold maxLen at hcap
  clear hs hm hp hbig hR hlen
  go_enter Tryd.func4, Tryd.ntmps4
  go_wp2_with (first
    | (at_builtin
       go_must (refine wpList_append_list rfl (.tmp 8) (.tmp 9) _ rfl w.heap.size w.heap.size 30 j _ 4 40 Tryd.underlying22 I.out.1 I.out.2.1 I.out.2.2.1 I.out.2.2.2 rfl (by omega) (R := Tok.Is) (l := []) (m := l) (.slice (some ⟨w.heap.size, 0, none⟩) 0 0) rfl (by exact Own1.empty rfl (Nat.le_refl _)) a n c rfl (by exact Hs.out.below ((Below.refl _ _).alloc (Nat.le_refl _) _)) n (by simp) Tok.Is.one (by unfold maxLen; simp; omega) (by simp; omega) (by simp) ?_)
       intro xa xc w1 hown hgr
       rw [List.nil_append] at hown
       have O1 := Lib.hid hown
       have B1 := Lib.hid (((Below.refl w.heap.size w).alloc (Nat.le_refl _) _).trans (below_of_grown (Own1.empty (R := Tok.Is) (size := 4) rfl (Nat.le_refl _)) (by simp) hgr))
       clear hown hgr)
    | (go_at_call 12
       refine (JA.out _ _ B1.out (O1.out.read (by omega))).mono ?_
       rintro e w2 ⟨rfl, b2⟩
       have O2 := Lib.hid (O1.out.below b2 (Nat.le_refl _))
       have B2 := Lib.hid (B1.out.trans (b2.mono B1.out.size))
       clear b2)
    | (go_at_call 13
       refine (JR.out _ B2.out).mono ?_
       rintro e w3 ⟨rfl, b3⟩
       have O3 := Lib.hid (O2.out.below b3 (Nat.le_refl _))
       have B3 := Lib.hid (B2.out.trans (b3.mono B2.out.size))
       clear b3)
    | (go_at_call 11
       refine (alike_at _ w3 (O3.out.read (by omega)) ((Hs.out.below B3.out).more B3.out.size) (Below.refl _ _)).mono ?_
       rw [eqBy_tok, decide_eq_true rfl]
       rintro e w4 ⟨rfl, q4⟩
       have B4 := Lib.hid (B3.out.trans (q4.below _))
       clear q4))
  go_ret
  exact ⟨rfl, B4.out⟩
end Go.Proofs.YtjjppnfdnjdhlaaDoor
