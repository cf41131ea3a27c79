/- Any text is put in quotes, and any text is read from any place on, just as the chapter says: 'topiarylaw01.NamesQuotes' returns true where the arguments are together of bulk at most 1048576. -/
import Derived.Test.YtffhogadgjnkkaaRef
import Derived.Test.YtffhogadgjnkkaaRows
import Derived.ProofKit
import Derived.OpenShut
import Derived.ShutString
import Derived.ChangeOld
import Derived.JoinedCond
namespace Go.Proofs.Ytffhogadgjnkkaa
open Go.RowKit Go.ChangeShapes Go.WideShapes Go.ChangeAt
set_option linter.unusedVariables false

set_option maxHeartbeats 2000000 in
theorem law_walk (s t : ByteArray) (a : Int) (ha : (Lit.int .i64 a).wf = true) (hs : s.size ≤ 1048576) (ht : t.size ≤ 1048576) (w : World) :
    Calls Try.prog 3 #[.string s, .string t, .int .i64 a] w fun e w' => e = .returned (.bool true) ∧ Below w.heap.size w w' := by
  have U1 := Lib.hid (fun W => unquote_any t a ha ht W)
  have U2 := Lib.hid (fun W => ref_unquote t a ha ht W)
  have Q1 := Lib.hid (fun W => quote_any s hs W)
  have Q2 := Lib.hid (fun W => ref_quote s hs W)
  obtain ⟨r, hr⟩ : ∃ r, unquoteN (bs t) a = r := ⟨_, rfl⟩
  rw [hr] at U1 U2
  obtain ⟨r1, r2, r3⟩ := r
  simp only [unqV] at U1 U2
  generalize txt r1 = x at U1 U2
  generalize txt (quoteN (bs s)) = y at Q1 Q2
  clear hr
  go_enter Try.func3, Try.ntmps3
  go_wp2_with (first
    | (go_at_call 4; refine (U1.out _).mono ?_; rintro e w1 ⟨rfl, b1⟩)
    | (go_at_call 5; refine (U2.out _).mono ?_; rintro e w2 ⟨rfl, b2⟩)
    | (go_at_call 6; refine (Q1.out _).mono ?_; rintro e w3 ⟨rfl, b3⟩)
    | (go_at_call 7; refine (Q2.out _).mono ?_; rintro e w4 ⟨rfl, b4⟩))
  go_ret
  have z1 := b1.size
  have z2 := b2.size
  have z3 := b3.size
  exact ⟨rfl, ((b1.trans (b2.mono z1)).trans (b3.mono (by omega))).trans (b4.mono (by omega))⟩

theorem own : ownKnob Try.prog.godebug = none := by kernel_rfl
theorem laidOut : laidOutB Try.prog = true := by kernel_rfl

set_option maxRecDepth 100000 in
theorem lifted (os : Os) (started : os.Started) (H : Type) (enc : TypeId × Value → H) (F : Stop.Interp) :
    ReturnsInHanded {} Try.checked os 3 .any ((Rows.OpenSpec.upto Rows.namesQuotesSpec).pre6 enc Try.prog Try.f3 Rows.namesQuotesUptoRow.domain false) (((Rows.OpenSpec.upto Rows.namesQuotesSpec).at F).post enc Try.prog Try.f3 false true false false) := by
  refine returnsInHanded_of_cond (C := Try.checked) (s := Rows.OpenSpec.upto Rows.namesQuotesSpec) (k := Rows.uptoSmall) rfl own started (by kernel_rfl) Try.func3
    (OpenSpec.witness (enc := enc) (C := Try.checked) (s := Rows.OpenSpec.upto Rows.namesQuotesSpec) (k := Rows.uptoSmall) rfl false ⟨#[], #[.string ⟨#[]⟩, .string ⟨#[]⟩, .int .i64 0], []⟩ 8 (by kernel_rfl) (by kernel_rfl) (by kernel_rfl)
      (x := ([.lit (.string []), .lit (.string []), .lit (.int .i64 0)], [], [])) (by kernel_rfl) rfl (by kernel_rfl)) ?_
  intro W base args ds gs before hval0 hW _ hk _
  have hval : ∀ (j : Nat) t v, Try.f3.params[j]? = some t → args[j]? = some v → Value.okWide Try.prog W .any base t v := hval0
  have hW' := hW
  obtain ⟨p, q, hA0, hV, rfl, hfz, hnd⟩ := hW
  have hA : DataW.TrodAll enc Try.prog W 0 (fun _ => true) true Try.f3.params.toList args.toList ds p := hA0
  rw [Try.params3] at hA hval
  obtain ⟨v0, vs0, d0, ds0, p0, q0, hargs, rfl, rfl, h0, r0⟩ := trodAll_cons hA
  obtain ⟨v1, vs1, d1, ds1, p1, q1, rfl, rfl, rfl, h1, r1⟩ := trodAll_cons r0
  obtain ⟨v2, vs2, d2, ds2, p2, q2, rfl, rfl, rfl, h2, r2⟩ := trodAll_cons r1
  obtain ⟨rfl, rfl, rfl⟩ := trodAll_nil r2
  obtain rfl : args = #[v0, v1, v2] := by cases args; simp_all
  obtain ⟨rfl, rfl⟩ := trodVars_none hV
  obtain ⟨x0, rfl⟩ := okWide_string Try.underlying9 (hval 0 9 v0 rfl rfl)
  obtain ⟨x1, rfl⟩ := okWide_string Try.underlying9 (hval 1 9 v1 rfl rfl)
  obtain ⟨x2, rfl⟩ := okWide_int Try.underlying3 (hval 2 3 v2 rfl rfl)
  have k0 := h0
  have k1 := h1
  have k2 := h2
  have lt0 : ∀ x ∈ p0, x.block < W.heap.size := by obtain ⟨m, hm⟩ := k0; exact DataW.trod_lt m _ _ _ hm
  have lt1 : ∀ x ∈ p1, x.block < W.heap.size := by obtain ⟨m, hm⟩ := k1; exact DataW.trod_lt m _ _ _ hm
  have lt2 : ∀ x ∈ p2, x.block < W.heap.size := by obtain ⟨m, hm⟩ := k2; exact DataW.trod_lt m _ _ _ hm
  obtain ⟨f0, h0⟩ := h0
  obtain ⟨f1, h1⟩ := h1
  obtain ⟨f2, h2⟩ := h2
  obtain ⟨s0, e0, g0, _⟩ := DataW.trod_string Try.underlying9 h0
  obtain ⟨s1, e1, g1, _⟩ := DataW.trod_string Try.underlying9 h1
  obtain ⟨z2, e2, g2, wf2⟩ := DataW.trod_int Try.underlying3 h2
  obtain rfl : x0 = s0 := by simpa [Value.cells] using e0
  obtain rfl : x1 = s1 := by simpa [Value.cells] using e1
  obtain rfl : x2 = z2 := by simpa [Value.cells] using e2
  have hb := of_decide_eq_true hk
  have l0 : x0.data.toList.length = x0.size := Array.length_toList
  have l1 : x1.data.toList.length = x1.size := Array.length_toList
  have hbound : x0.size ≤ 1048576 ∧ x1.size ≤ 1048576 := by
    have q0 := congrArg Prod.fst g0
    have q1 := congrArg Prod.fst g1
    simp only at q0 q1
    subst q0 q1
    simp only [List.cons_append, List.nil_append, List.append_nil, Rows.uptoBulkAll, Rows.uptoBulk] at hb
    rw [l0, l1] at hb
    omega
  clear hA0 hval0
  refine (law_walk x0 x1 x2 wf2 hbound.1 hbound.2 W).mono fun e W' ⟨he, bel⟩ => ?_
  subst he
  exact ⟨_, rfl, _, _, _, [], _, [], hW', trodAll_mk1 (shut_bool Try.underlying4 _), (trodAll_cons_mk (Below.trod laidOut (by kernel_rfl) (of_decide_eq_true (by kernel_rfl)) k0 bel lt0) (trodAll_cons_mk (Below.trod laidOut (by kernel_rfl) (of_decide_eq_true (by kernel_rfl)) k1 bel lt1) (trodAll_cons_mk (Below.trod laidOut (by kernel_rfl) (of_decide_eq_true (by kernel_rfl)) k2 bel lt2) trodAll_mk0))), rfl, bel.frame _, fun h => by cases h⟩

theorem over : Rows.namesQuotesUptoRow.holds Try.pinned (Rows.OpenSpec.upto Rows.namesQuotesSpec) :=
  OpenClaim.holds_of_cond 3 Try.f3 rfl rfl rfl rfl rfl rfl rfl ⟨rfl, rfl, rfl, rfl, rfl⟩ rfl rfl rfl rfl rfl (by kernel_rfl) Try.func3 (by kernel_rfl)
    (of_decide_eq_true (by kernel_rfl)) (by unfold Func.isWrapper; first | (rw [if_pos (by decide +kernel)]; kernel_rfl) | (rw [if_neg (by decide +kernel)]; exact ⟨rfl, rfl⟩))
    (fun os started H enc _ F => lifted os started H enc F)

theorem namesQuotesUpto_holds : Rows.NamesQuotesUptoSaid := over
#print axioms namesQuotesUpto_holds
end Go.Proofs.Ytffhogadgjnkkaa
