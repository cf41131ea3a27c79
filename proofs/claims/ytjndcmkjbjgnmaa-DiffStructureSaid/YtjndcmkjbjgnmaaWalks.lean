/- Any differences are of concepts or their parts just if one of them is of such a Kind: 'topiarylaw22.DiffStructure' returns true whatever the list; no condition. -/
import Derived.Test.YtjndcmkjbjgnmaaBase
import Derived.Test.YtjndcmkjbjgnmaaRows
import Derived.ProofKit
import Derived.OpenShut
import Derived.ShutString
import Derived.ChangeOld
namespace Go.Proofs.Ytjndcmkjbjgnmaa
open Go.RowKit Go.ChangeShapes Go.WideShapes Go.ChangeAt
set_option linter.unusedVariables false

theorem len4 {x : List Value} (h : x.length = 4) : ∃ u0 u1 u2 u3, x = [u0, u1, u2, u3] := by
  match x, h with
  | [u0, u1, u2, u3], _ => exact ⟨_, _, _, _, rfl⟩

set_option maxHeartbeats 400000 in
theorem indexFunc_Delta {α : Type} {R : List Value → α → Prop} {l : List α} {v : Value} (g : FuncId) (cap : Array Value) (w w0 : World) (p : α → Bool)
   (hs : SlR w0 w0.heap.size 4 R v l) (hw : Below w0.heap.size w0 w)
   (hcall : ∀ args w, (callFunc g args).run Try.prog w = .ok (.enter g args) w)
   (hclos : ∀ x y W, R x y → Below w0.heap.size w0 W → Calls Try.prog g (#[(.agg x.toArray)] ++ cap) W fun e W' => e = .returned (.bool (p y)) ∧ Below W.heap.size W W') :
    Calls Try.prog 7 #[v, .func (.func g) #[] cap] w fun e w' => e = .returned (.int .i64 (firstAt p l)) ∧ Below w.heap.size w w' := by
  obtain ⟨a, c, rfl⟩ : ∃ a c, v = .slice a l.length c := by obtain ⟨a, c, h, _⟩ := hs.form; exact ⟨a, c, h⟩
  have hn : l.length ≤ 9223372036854775807 := by have := hs.caps; unfold maxLen at this; omega
  obtain ⟨n, hlen⟩ : ∃ n, l.length = n := ⟨_, rfl⟩
  rw [hlen] at hs hn ⊢
  have Hlen := Lib.hid hlen
  have H := Lib.hid hclos
  have Hs := Lib.hid hs
  have Hw := Lib.hid hw
  clear hclos hs hlen hw
  go_enter Try.func7, Try.ntmps7
  go_wp2_with fail
  go_loopw [4, 5, 8] (fun _ _ j wr => ∃ k : Nat, k ≤ n ∧ j = .int .i64 k ∧ Below w.heap.size w wr ∧ Hid (∀ i d, i < k → l[i]? = some d → p d = false)) (fun _ _ j _ => n - (intOf j).toNat)
  case atStart => exact ⟨0, Nat.zero_le _, rfl, Below.refl _ _, fun i d hi => by omega⟩
  case round =>
    obtain ⟨k, hk, rfl, hb, hf⟩ := hrel
    by_cases hlt : k < n
    · obtain ⟨y, hd⟩ : ∃ d, l[k]? = some d := ⟨_, List.getElem?_eq_getElem (by rw [Hlen.out]; exact hlt)⟩
      have hw1 := Hw.out.trans (hb.mono Hw.out.size)
      obtain ⟨b, off, x, rfl, hbB, hxl, hR, hx⟩ := (Hs.out.below hw1).at_ hd
      obtain ⟨e0, e1, e2, e3, rfl⟩ := len4 hxl
      have h0 := hx 0 _ rfl
      have h1 := hx 1 _ rfl
      have h2 := hx 2 _ rfl
      have h3 := hx 3 _ rfl
      simp only [Nat.add_zero] at h0
      have Hd := Lib.hid hd
      have HR := Lib.hid hR
      have Hw1 := Lib.hid hw1
      clear hd hx hxl hR hw1
      cases hp : p y
      · have Hp := Lib.hid hp
        clear hp
        go_wp2_with (with_reducible refine (H.out [e0, e1, e2, e3] y _ HR.out Hw1.out).mono ?_; rintro e w1 ⟨rfl, hb1⟩; rw [Hp.out])
        go_roundw
        case rel => exact ⟨k + 1, by omega, by go_num, hb.trans (hb1.mono hb.size), fun i d' hi hd' => by
          by_cases e : i = k
          · subst e; obtain rfl : y = d' := by have := Hd.out; rw [hd'] at this; exact (Option.some.inj this).symm
            exact Hp.out
          · exact hf.out i d' (by omega) hd'⟩
        case measure => simp [intOf]; omega
      · have Hp := Lib.hid hp
        clear hp
        go_wp2_with (with_reducible refine (H.out [e0, e1, e2, e3] y _ HR.out Hw1.out).mono ?_; rintro e w1 ⟨rfl, hb1⟩; rw [Hp.out])
        go_ret
        exact ⟨by rw [firstAt_here Hd.out Hp.out hf.out]; rfl, hb.trans (hb1.mono hb.size)⟩
    · have hge : n ≤ k := by omega
      clear hlt
      go_wp2_with fail
      go_ret
      exact ⟨by rw [firstAt_none (fun i d hi => hf.out i d (by have := Hlen.out; omega))]; rfl, hb⟩

theorem containsFunc_Delta {α : Type} {R : List Value → α → Prop} {l : List α} {v : Value} (g : FuncId) (cap : Array Value) (w w0 : World) (p : α → Bool)
   (hs : SlR w0 w0.heap.size 4 R v l) (hw : Below w0.heap.size w0 w)
   (hcall : ∀ args w, (callFunc g args).run Try.prog w = .ok (.enter g args) w)
   (hclos : ∀ x y W, R x y → Below w0.heap.size w0 W → Calls Try.prog g (#[(.agg x.toArray)] ++ cap) W fun e W' => e = .returned (.bool (p y)) ∧ Below W.heap.size W W') :
    Calls Try.prog 5 #[v, .func (.func g) #[] cap] w fun e w' => e = .returned (.bool (l.any p)) ∧ Below w.heap.size w w' := by
  have H := Lib.hid (indexFunc_Delta g cap w w0 p hs hw hcall hclos)
  clear hclos hs hw hcall
  go_enter Try.func5, Try.ntmps5
  go_wp2_with (go_at_call 7; with_reducible refine H.out.mono ?_; rintro e w1 ⟨rfl, hb1⟩)
  go_ret
  exact ⟨by rw [← firstAt_any]; rfl, hb1⟩


/-- What the walks know of a difference: its Kind. -/
def DeltaK (x : List Value) (k : Int) : Prop := ∃ u v r, x = [.int .i64 k, u, v, r]
def inside (k : Int) : Bool := decide (3 ≤ k ∧ k ≤ 15)

theorem kind_any (k : Int) (a b c : Value) (w : World) :
    Calls Try.prog 6 #[.agg #[.int .i64 k, a, b, c]] w fun e w' => e = .returned (.bool (inside k)) ∧ Below w.heap.size w w' := by
  by_cases h1 : 3 ≤ k
  · by_cases h2 : k ≤ 15
    · have hv : inside k = true := by simp [inside, h1, h2]
      rw [hv]; clear hv
      go_enter Try.func6, Try.ntmps6
      go_wp2
      go_ret
      exact ⟨rfl, (Below.refl _ _).alloc (Nat.le_refl _) _⟩
    · have hv : inside k = false := by simp [inside, h2]
      rw [hv]; clear hv
      go_enter Try.func6, Try.ntmps6
      go_wp2
      go_ret
      exact ⟨by simp, (Below.refl _ _).alloc (Nat.le_refl _) _⟩
  · have hv : inside k = false := by simp [inside, h1]
    rw [hv]; clear hv
    have h3 : decide (3 ≤ k) = false := by simpa using h1
    go_enter Try.func6, Try.ntmps6
    go_wp2
    go_ret
    exact ⟨by rfl, (Below.refl _ _).alloc (Nat.le_refl _) _⟩

theorem structure_any {l : List Int} {v : Value} (w w0 : World) (hs : SlR w0 w0.heap.size 4 DeltaK v l) (hw : Below w0.heap.size w0 w) :
    Calls Try.prog 4 #[v] w fun e w' => e = .returned (.bool (l.any inside)) ∧ Below w.heap.size w w' := by
  have H := Lib.hid (containsFunc_Delta 6 #[] w w0 inside hs hw (fun args w => by go_simp) (fun x y W ⟨u, v, r, e⟩ _ => by subst e; exact kind_any y u v r W))
  clear hs hw
  go_enter Try.func4, Try.ntmps4
  go_wp2_with (go_at_call 5; with_reducible refine H.out.mono ?_; rintro e w1 ⟨rfl, hb1⟩)
  go_ret
  exact ⟨rfl, hb1⟩

theorem any_take_succ (l : List Int) (k : Nat) (y : Int) (h : l[k]? = some y) : (l.take (k + 1)).any inside = ((l.take k).any inside || inside y) := by
  have hk : k < l.length := (List.getElem?_eq_some_iff.1 h).1
  rw [List.take_succ_eq_append_getElem hk, List.any_append]
  have : l[k] = y := (List.getElem?_eq_some_iff.1 h).2
  simp [this]

set_option maxHeartbeats 1000000 in
theorem walk {l : List Int} {v : Value} (w : World) (hs : SlR w w.heap.size 4 DeltaK v l) :
    Calls Try.prog 3 #[v] w fun e w' => e = .returned (.bool true) ∧ Below w.heap.size w w' := by
  obtain ⟨a, c, rfl⟩ : ∃ a c, v = .slice a l.length c := by obtain ⟨a, c, h, _⟩ := hs.form; exact ⟨a, c, h⟩
  have hn : l.length ≤ 9223372036854775807 := by have := hs.caps; unfold maxLen at this; omega
  have H := Lib.hid (fun W (hW : Below w.heap.size w W) => structure_any W w hs hW)
  obtain ⟨n, hlen⟩ : ∃ n, l.length = n := ⟨_, rfl⟩
  rw [hlen] at hs hn H ⊢
  have Hlen := Lib.hid hlen
  have Hs := Lib.hid hs
  clear hs hlen
  go_enter Try.func3, Try.ntmps3
  go_wp2_with fail
  go_loopw [3, 4] (fun r i wr => ∃ k : Nat, k ≤ n ∧ i = .int .i64 k ∧ r = .bool ((l.take k).any inside) ∧ Below w.heap.size w wr) (fun _ i _ => n - (intOf i).toNat)
  case atStart => exact ⟨0, Nat.zero_le _, rfl, rfl, Below.refl _ _⟩
  case round =>
    obtain ⟨k, hk, rfl, hr, hb⟩ := hrel
    by_cases hlt : k < n
    · obtain ⟨y, hd⟩ : ∃ d, l[k]? = some d := ⟨_, List.getElem?_eq_getElem (by rw [Hlen.out]; exact hlt)⟩
      obtain ⟨b, off, x, rfl, hbB, hxl, ⟨q1, q2, q3, rfl⟩, hx⟩ := (Hs.out.below hb).at_ hd
      have h0 := hx 0 _ rfl
      simp only [Nat.add_zero] at h0
      have Hstep := Lib.hid (any_take_succ l k y hd)
      clear hx hxl hd
      cases hh : (l.take k).any inside
      · rw [hh] at hr
        have Hh := Lib.hid hh
        clear hh
        subst hr
        by_cases h1 : 3 ≤ y
        · by_cases h2 : y ≤ 15
          · go_wp2
            go_roundw
            case rel => exact ⟨k + 1, by omega, by go_num, by rw [Hstep.out, Hh.out]; simp [inside, h1, h2], hb⟩
            case measure => simp [intOf]; omega
          · have h3 : decide (y ≤ 15) = false := by simpa using h2
            go_wp2
            go_roundw
            case rel => exact ⟨k + 1, by omega, by go_num, by rw [Hstep.out, Hh.out]; simp [inside, h2], hb⟩
            case measure => simp [intOf]; omega
        · have h3 : decide (3 ≤ y) = false := by simpa using h1
          go_wp2
          go_roundw
          case rel => exact ⟨k + 1, by omega, by go_num, by rw [Hstep.out, Hh.out]; simp [inside, h1], hb⟩
          case measure => simp [intOf]; omega
      · rw [hh] at hr
        have Hh := Lib.hid hh
        clear hh
        subst hr
        go_wp2
        go_roundw
        case rel => exact ⟨k + 1, by omega, by go_num, by rw [Hstep.out, Hh.out]; rfl, hb⟩
        case measure => simp [intOf]; omega
    · have hge : n ≤ k := by omega
      clear hlt
      have hfin : (l.take k).any inside = l.any inside := by rw [List.take_of_length_le (by rw [Hlen.out]; exact hge)]
      rw [hfin] at hr
      clear hfin
      subst hr
      generalize hany : l.any inside = bb at H ⊢
      clear hany
      cases bb
      all_goals
        go_wp2_with (go_at_call 4; with_reducible refine (H.out _ hb).mono ?_; rintro e w1 ⟨rfl, hb1⟩)
        go_ret
        exact ⟨rfl, hb.trans (hb1.mono hb.size)⟩


theorem own : ownKnob Try.prog.godebug = none := by kernel_rfl
theorem laidOut : laidOutB Try.prog = true := by kernel_rfl

theorem open_delta {H : Type} {enc : TypeId × Value → H} {w : World} {n : Nat} {x : List Value} {d : DataW H × List MemPlace}
    (h : DataW.trod enc Try.prog w 0 (fun _ => true) true n 24 x = some d) : ∃ k, DeltaK x k := by
  obtain ⟨hl, m, hf⟩ := open_fields Try.underlying24 (by kernel_rfl) (by kernel_rfl) h
  obtain ⟨u0, u1, u2, u3, rfl⟩ := len4 hl
  obtain ⟨u, y, hu, hy⟩ := hf 0 _ rfl
  obtain rfl : u0 = u := by simpa using hu
  obtain ⟨k, hk, _⟩ := DataW.trod_int Try.underlying3 hy
  simp at hk
  subst hk
  exact ⟨k, _, _, _, rfl⟩

set_option maxRecDepth 100000 in
theorem lifted (os : Os) (started : os.Started) (H : Type) (enc : TypeId × Value → H) :
    ReturnsInHanded {} Try.checked os 3 .any (Rows.diffStructureSpec.pre6 enc Try.prog Try.f3 Rows.diffStructureRow.domain false) (Rows.diffStructureSpec.post enc Try.prog Try.f3 false true false false) := by
  refine returnsInHanded_of_change (C := Try.checked) own started (by kernel_rfl) Try.func3
    (ChangeSpec.witness6 (enc := enc) (C := Try.checked) false ⟨#[], #[.slice none 0 0], []⟩ 8 (by kernel_rfl) (by kernel_rfl) (by kernel_rfl) (by kernel_rfl)) ?_
  intro W base args ds gs before hval0 hW hcnd _
  have hval : ∀ (j : Nat) t v, Try.f3.params[j]? = some t → args[j]? = some v → Value.okWide Try.prog W .any base t v := hval0
  have hW' := hW
  obtain ⟨p, q, hA0, hV, rfl, hfz, hnd⟩ := hW
  have hA : DataW.TrodAll enc Try.prog W 0 (fun _ => true) true Try.f3.params.toList args.toList ds p := hA0
  rw [Try.params3] at hA hval
  obtain ⟨v0, vs0, d0, ds0, p0, q0, hargs, rfl, rfl, h0, r0⟩ := trodAll_cons hA
  obtain ⟨rfl, rfl, rfl⟩ := trodAll_nil r0
  obtain rfl : args = #[v0] := by cases args; simp_all
  obtain ⟨rfl, rfl⟩ := trodVars_none hV
  obtain ⟨a0, len0, cap0, rfl⟩ := okWide_slice Try.underlying22 (hval 0 22 v0 rfl rfl)
  have k0 := h0
  have lt0 : ∀ x ∈ p0, x.block < W.heap.size := by obtain ⟨m, hm⟩ := k0; exact DataW.trod_lt m _ _ _ hm
  obtain ⟨l0, w0⟩ : ∃ l, SlR W W.heap.size 4 DeltaK (.slice a0 len0 cap0) l := by
    obtain ⟨fuel, hf⟩ := h0
    exact open_SlR DeltaK Try.underlying22 (by kernel_rfl) (by decide) hf (fun n x y _ h => open_delta h)
  clear hA0 hval0
  refine (walk W w0).mono fun e W' ⟨he, bel⟩ => ?_
  subst he
  exact ⟨_, rfl, _, _, _, [], _, [], hW', trodAll_mk1 (shut_bool Try.underlying4 _), (trodAll_cons_mk (Below.trod laidOut (by kernel_rfl) (of_decide_eq_true (by kernel_rfl)) k0 bel lt0) trodAll_mk0), rfl, bel.frame _, fun h => by cases h⟩

theorem over : Rows.diffStructureRow.holds Try.pinned (OpenSpec.ofChange Rows.diffStructureSpec) :=
  OpenClaim.holds_of_wide 3 Try.f3 rfl rfl rfl rfl rfl rfl rfl ⟨rfl, rfl, rfl, rfl, rfl⟩ rfl rfl rfl rfl rfl (by kernel_rfl) Try.func3 (by kernel_rfl)
    (of_decide_eq_true (by kernel_rfl)) (by unfold Func.isWrapper; first | (rw [if_pos (by decide +kernel)]; kernel_rfl) | (rw [if_neg (by decide +kernel)]; exact ⟨rfl, rfl⟩))
    (fun os started H enc _ => lifted os started H enc)

theorem diffStructure_holds : Rows.DiffStructureSaid := over
#print axioms diffStructure_holds

end Go.Proofs.Ytjndcmkjbjgnmaa
