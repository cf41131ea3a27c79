/- lang.Tree: the closure that calls itself, and the stack of what is still to be met. -/
import Derived.Test.YtdhljfblkidohaaIdx2
import Derived.Test.YtdhljfblkidohaaChkPlain
import Derived.Laws.EntriesVeiled
namespace Go.Proofs.Ytdhljfblkidohaa
set_option linter.unusedSimpArgs false
set_option linter.unusedVariables false
open Go.RowKit

theorem grown_trans {a b c : World} {row : Option Nat} (h : a.grownBy b row) (k : b.grownBy c row) : a.grownBy c row :=
  ⟨k.os.trans h.os, k.tape.trans h.tape, k.output.trans h.output, Nat.le_trans h.size k.size, fun g hg hne => (k.block g (Nat.lt_of_lt_of_le hg h.size) hne).trans (h.block g hg hne)⟩
theorem grown_of_below {a b : World} (row : Option Nat) (h : Below a.heap.size a b) : a.grownBy b row := ⟨h.os, h.tape, h.output, h.size, fun g hg _ => h.block g hg⟩
theorem cell_grown {a b : World} {row : Option Nat} (h : a.grownBy b row) {p : Addr} {u : Value} (hp : a.cell? p = some u) (hne : some p.block ≠ row) : b.cell? p = some u :=
  (World.cell?_of_block (h.block p.block (cell_lt hp) hne)).trans hp

theorem met_no (n : Nat) (a : Option Addr) (c : Nat) (b0 b1 b2 : Nat) (i : Int) (m : Nat) (W : World) (h0 : W.cell? ⟨b0, 0, none⟩ = some (.slice a n c)) (h1 : W.cell? ⟨b1, 0, none⟩ = some (.int .i64 (m : Int))) (hno : i ≠ (m : Int) ∨ (n : Int) ≤ i) :
    Calls Try.prog 43 #[.int .i64 i, .pointer (some ⟨b1, 0, none⟩), .pointer (some ⟨b0, 0, none⟩), .pointer (some ⟨b2, 0, none⟩)] W fun e W' => e = .returned (.bool false) ∧ W' = W := by
  by_cases e : i = (m : Int)
  · subst e
    have d1 : decide ((n : Int) ≤ (m : Int)) = true := by simp; omega
    have d2 : n ≤ m := by omega
    clear hno
    go_enter Try.func43, Try.ntmps43
    go_wp2_with fail
    go_ret
    exact ⟨rfl, rfl⟩
  · have d1 : (i != (m : Int)) = true := by simpa using e
    clear hno e
    go_enter Try.func43, Try.ntmps43
    go_wp2_with fail
    go_ret
    exact ⟨rfl, rfl⟩

/-- what a call of the closure comes to: the number that the next one must have, or none -/
def MetPost (l : List Side) (Ws : World) (b1 : Nat) (i : Int) (m : Nat) (e : Ending) (W' : World) : Prop :=
  ∃ o : Option Nat, e = .returned (.bool o.isSome) ∧ (∀ rest, treeS l (i :: rest) m = (match o with | some m' => treeS l rest m' | none => false)) ∧
    Ws.grownBy W' (some b1) ∧ ∀ m', o = some m' → m < m' ∧ m' ≤ l.length ∧ Blk W' b1 3 #[.int .i64 (m' : Int)]

set_option maxHeartbeats 1000000 in
theorem met_any {l : List Side} {v : Value} (w0 Ws : World) (b0 b1 b2 : Nat) (hs : SlR w0 w0.heap.size 4 (Side.Is w0 w0.heap.size) v l) (hl : Below w0.heap.size w0 Ws) (hb1 : w0.heap.size ≤ b1)
    (h0 : Ws.cell? ⟨b0, 0, none⟩ = some v) (h2 : Ws.cell? ⟨b2, 0, none⟩ = some (.func (.func 43) #[] #[.pointer (some ⟨b1, 0, none⟩), .pointer (some ⟨b0, 0, none⟩), .pointer (some ⟨b2, 0, none⟩)])) (n0 : b0 ≠ b1) (n2 : b2 ≠ b1) :
    ∀ (d m : Nat), l.length - m ≤ d → ∀ (i : Int) (W : World), Ws.grownBy W (some b1) → Blk W b1 3 #[.int .i64 (m : Int)] →
      Calls Try.prog 43 #[.int .i64 i, .pointer (some ⟨b1, 0, none⟩), .pointer (some ⟨b0, 0, none⟩), .pointer (some ⟨b2, 0, none⟩)] W (MetPost l Ws b1 i m) := by
  obtain ⟨a, c, rfl⟩ : ∃ a c, v = .slice a l.length c := by obtain ⟨a, c, h, _⟩ := hs.form; exact ⟨a, c, h⟩
  have hn : l.length ≤ 9223372036854775807 := by have := hs.caps; unfold maxLen at this; omega
  have no : ∀ (m : Nat) (i : Int) (W : World), Ws.grownBy W (some b1) → Blk W b1 3 #[.int .i64 (m : Int)] → (i ≠ (m : Int) ∨ (l.length : Int) ≤ i) →
      Calls Try.prog 43 #[.int .i64 i, .pointer (some ⟨b1, 0, none⟩), .pointer (some ⟨b0, 0, none⟩), .pointer (some ⟨b2, 0, none⟩)] W (MetPost l Ws b1 i m) := by
    intro m i W hg hB hno
    refine (met_no l.length a c b0 b1 b2 i m W (cell_grown hg h0 (by simpa using n0)) (hB.cell (i := 0) rfl) hno).mono ?_
    rintro e W' ⟨rfl, rfl⟩
    refine ⟨none, rfl, fun rest => ?_, hg, fun m' h => by cases h⟩
    rcases hno with hno | hno
    · exact treeS_bad hno
    · by_cases e : i = (m : Int)
      · subst e
        exact treeS_out (by omega)
      · exact treeS_bad e
  intro d
  induction d with
  | zero =>
    intro m hm i W hg hB
    by_cases e : i = (m : Int)
    · exact no m i W hg hB (.inr (by omega))
    · exact no m i W hg hB (.inl e)
  | succ d ih =>
    intro m hm i W hg hB
    by_cases hno : i ≠ (m : Int) ∨ (l.length : Int) ≤ i
    · exact no m i W hg hB hno
    obtain ⟨rfl, hlt⟩ : i = (m : Int) ∧ m < l.length := by omega
    clear hno no
    have hlW := hl.grown hg hl.size (fun k hk => by injection hk with hk; omega)
    obtain ⟨y, hd⟩ := get_some rfl hlt
    obtain ⟨b, off, x, rfl, hbB, hxl, ⟨u, rfl, hsa, _⟩, hx⟩ := hs.at_ hd
    obtain ⟨ua, uc, rfl⟩ : ∃ a c, u = .slice a y.args.length c := by obtain ⟨a, c, h, _⟩ := hsa.form; exact ⟨a, c, h⟩
    have h3 := hx 3 _ rfl
    have hna : y.args.length ≤ 9223372036854775807 := by have := hsa.caps; unfold maxLen at this; omega
    have hstep : ∀ rest, treeS l ((m : Int) :: rest) m = treeS l (y.args ++ rest) (m + 1) := fun rest => treeS_step hd
    have q0 := cell_grown hg h0 (by simpa using n0)
    have q2 := cell_grown hg h2 (by simpa using n2)
    have q1 : W.cell? ⟨b1, 0, none⟩ = some (.int .i64 (m : Int)) := hB.cell (i := 0) rfl
    have q1f := hB.frozen 0
    have l0 : b0 < W.heap.size := cell_lt q0
    have l1 := hB.lt
    have l2 : b2 < W.heap.size := cell_lt q2
    have q3 : W.cell? ⟨b, off + m * 4 + 3, none⟩ = _ := (hlW.cell hbB).trans h3
    have hbW : b < W.heap.size := by have := hlW.size; omega
    have hbne : b ≠ b1 := by omega
    obtain ⟨n, hlen⟩ : ∃ n, l.length = n := ⟨_, rfl⟩
    have HA : Hid (∀ W1, Ws.grownBy W1 (some b1) → Blk W1 b1 3 #[.int .i64 ((m + 1 : Nat) : Int)] → Calls Try.prog 44 #[.slice ua y.args.length uc, .func (.func 45) #[] #[.pointer (some ⟨b2, 0, none⟩)]] W1 fun e w' =>
        (e = .returned (.bool false) ∧ ∃ mk : Nat, m + 1 ≤ mk ∧ mk ≤ l.length ∧ Ws.grownBy w' (some b1) ∧ Blk w' b1 3 #[.int .i64 (mk : Int)] ∧ ∀ rest, treeS l (y.args ++ rest) (m + 1) = treeS l rest mk) ∨
        (e = .returned (.bool true) ∧ Ws.grownBy w' (some b1) ∧ ∀ rest, treeS l (y.args ++ rest) (m + 1) = false)) := by
      intro W1 hg1 hB1
      refine (anyInt_st 45 #[.pointer (some ⟨b2, 0, none⟩)] W1 w0.heap.size
        (fun k W2 => ∃ mk : Nat, m + 1 ≤ mk ∧ mk ≤ l.length ∧ Ws.grownBy W2 (some b1) ∧ Blk W2 b1 3 #[.int .i64 (mk : Int)] ∧ ∀ rest, treeS l (y.args ++ rest) (m + 1) = treeS l (y.args.drop k ++ rest) mk)
        (fun W2 => Ws.grownBy W2 (some b1) ∧ ∀ rest, treeS l (y.args ++ rest) (m + 1) = false) ⟨_, _, rfl⟩ hna ?_ (fun args w => by go_simp) ?_ ⟨m + 1, Nat.le_refl _, hlt, hg1, hB1, fun rest => by rw [List.drop_zero]⟩).mono ?_
      · rintro k W2 ⟨mk, _, _, g2, _⟩
        exact hsa.below (hl.grown g2 hl.size (fun k hk => by injection hk with hk; omega))
      · rintro k z W2 hz ⟨mk, k1, k2, g2, B2, ht⟩
        have hih := ih mk (by omega) z W2 g2 B2
        have p2 := cell_grown g2 h2 (by simpa using n2)
        have hzl := (List.getElem?_eq_some_iff.1 hz).1
        have hdr : y.args.drop k = z :: y.args.drop (k + 1) := by rw [List.drop_eq_getElem_cons hzl, (List.getElem?_eq_some_iff.1 hz).2]
        rw [hdr] at ht
        have HI := Lib.hid hih
        have HT := Lib.hid ht
        clear hih ht hdr
        go_enter Try.func45, Try.ntmps45
        go_wp2_with (go_at_call 43; refine HI.out.mono ?_; rintro e W3 ⟨o, rfl, ho, g3, hm'⟩; rcases o with _ | m')
        · go_ret
          exact .inr ⟨rfl, g3, fun rest => by rw [HT.out, List.cons_append, ho]⟩
        · go_ret
          obtain ⟨j1, j2, j3⟩ := hm' m' rfl
          exact .inl ⟨rfl, m', by omega, j2, g3, j3, fun rest => by rw [HT.out, List.cons_append, ho]⟩
      · rintro e W2 (⟨rfl, mk, k1, k2, g2, B2, ht⟩ | ⟨rfl, g2, ht⟩)
        · exact .inl ⟨rfl, mk, k1, k2, g2, B2, fun rest => by rw [ht, List.drop_length, List.nil_append]⟩
        · exact .inr ⟨rfl, g2, ht⟩
    have HS := Lib.hid hstep
    have HG := Lib.hid hg
    have HB := Lib.hid hB
    have d1 : ((m : Int) != (m : Int)) = false := by simp
    have d2 : decide ((l.length : Int) ≤ (m : Int)) = false := by simp; omega
    have d3 : ¬ l.length ≤ m := by omega
    have hB' : Hid (Blk (W.setCell ⟨b1, 0, none⟩ (.int .i64 ((m : Int) + 1))) b1 3 #[.int .i64 ((m + 1 : Nat) : Int)]) := by rw [show ((m + 1 : Nat) : Int) = (m : Int) + 1 by omega]; exact Lib.hid (HB.out.set_ 0 _)
    have hg' : Hid (Ws.grownBy (W.setCell ⟨b1, 0, none⟩ (.int .i64 ((m : Int) + 1))) (some b1)) := Lib.hid (grown_trans HG.out ⟨rfl, rfl, rfl, by simp, fun g hg hne => Below.heap_setCell W _ _ g (by intro e; exact hne (by rw [e]))⟩)
    rw [hlen] at hlt hn d2 d3 q0
    clear hstep hg hB ih hs hsa h0 h2 hl hx hm hd h3 hlen hlW
    go_enter Try.func43, Try.ntmps43
    go_wp2_with (go_at_call 44; refine (HA.out _ hg'.out hB'.out).mono ?_; rintro e W3 (⟨rfl, mk, k1, k2, g3, B3, ht⟩ | ⟨rfl, g3, ht⟩))
    · go_ret
      exact ⟨some mk, rfl, fun rest => by rw [HS.out, ht], g3, fun m' e => by injection e with e; subst e; exact ⟨by omega, k2, B3⟩⟩
    · go_ret
      exact ⟨none, rfl, fun rest => by rw [HS.out, ht], g3, fun m' e => by cases e⟩

set_option maxHeartbeats 1000000 in
theorem tree_any {l : List Side} {v : Value} (w w0 : World) (hs : SlR w0 w0.heap.size 4 (Side.Is w0 w0.heap.size) v l) (hw : Below w0.heap.size w0 w) :
    Calls Try.prog 15 #[v] w fun e w' => e = .returned (.bool (treeB l)) ∧ Below w.heap.size w w' := by
  rw [treeB_eq]
  have hmf : ∀ (fn : Fn) (first cap : Array Value) (w : World), (Instr.makeFunc fn first cap).run Try.prog w = .ok (.func fn first cap) w := fun _ _ _ _ => rfl
  obtain ⟨a, c, rfl⟩ : ∃ a c, v = .slice a l.length c := by obtain ⟨a, c, h, _⟩ := hs.form; exact ⟨a, c, h⟩
  have hn : l.length ≤ 9223372036854775807 := by have := hs.caps; unfold maxLen at this; omega
  have hsz := hw.size
  have HM := Lib.hid (fun Ws hl hb1 h0 h2 n0 n2 (hB : Blk Ws (w.heap.size + 1) 3 #[.int .i64 0]) => met_any w0 Ws w.heap.size (w.heap.size + 1) (w.heap.size + 1 + 1) hs hl hb1 h0 h2 n0 n2 l.length 0 (by omega) 0 Ws (World.grownBy.refl _ _) hB)
  have HW := Lib.hid hw
  clear hs hw
  go_enter Try.func15, Try.ntmps15
  go_wp2_with (first
    | (go_at_call 43
       refine (HM.out _ (((HW.out.alloc HW.out.size _).alloc (below2 HW.out.size) _).alloc (below3 HW.out.size) _) (by omega) ((((Blk.new w _ _).alloc _).alloc _).cell (i := 0) rfl) ((Blk.new_ (by simp) _ _).cell (i := 0) rfl) (by omega) (by omega) ((Blk.new_ (by simp) _ _).alloc _)).mono ?_
       rintro e w1 ⟨o, rfl, ho, hg, hm'⟩
       have HB : Hid (Below w.heap.size w w1) := Lib.hid (((((Below.refl _ _).alloc (Nat.le_refl _) _).alloc (below2 (Nat.le_refl _)) _).alloc (below3 (Nat.le_refl _)) _).grown hg (by simp; omega) (fun k hk => by injection hk with hk; omega))
       have hd : o = none ∨ ∃ m' : Nat, o = some m' ∧ w1.cell? ⟨w.heap.size + 1, 0, none⟩ = some (.int .i64 (m' : Int)) ∧ w1.cell? ⟨w.heap.size, 0, none⟩ = some (.slice a l.length c) := by
         rcases o with _ | m'
         · exact .inl rfl
         · exact .inr ⟨m', rfl, (hm' m' rfl).2.2.cell (i := 0) rfl, cell_grown hg ((((Blk.new w _ _).alloc _).alloc _).cell (i := 0) rfl) (by simp)⟩
       clear hg hm'
       have Ho := Lib.hid ho
       clear ho
       rcases hd with rfl | ⟨m', rfl, q1, q0⟩))
  · go_ret
    exact ⟨by rw [show treeS l [0] 0 = false from Ho.out []]; rfl, HB.out⟩
  · go_ret
    refine ⟨?_, HB.out⟩
    rw [show treeS l [0] 0 = treeS l [] m' from Ho.out [], treeS_nil]
    by_cases h : m' = l.length
    · simp [h]
    · simp [h]; omega
end Go.Proofs.Ytdhljfblkidohaa
