/- - - - - - - - - - - -/
import Derived.Test.YtpkggobhhieeoaaDoorKLPrim
import Derived.Test.YtpkggobhhieeoaaDoorKM7
import Derived.Test.YtpkggobhhieeoaaDoorKM6
import Derived.Test.YtpkggobhhieeoaaDoorKM4
import Derived.Test.YtpkggobhhieeoaaDoorKM1
import Derived.Test.YtpkggobhhieeoaaDoorKM5
set_option maxRecDepth 100000
set_option maxHeartbeats 32000000
set_option linter.unusedSimpArgs false
set_option linter.unusedVariables false
namespace Go.Proofs.YtpkggobhhieeoaaDoor
open Go.RowKit
section
variable {q : Nat} {a : Option Addr} {c sz : Nat} {l : List Tok} {i : Nat} {W : World}
theorem pL_row (l : List Tok) (f n i : Nat) (h3 : n ≠ 3) (h7 : n ≠ 7) : pL l (f + 1) n i = rowR l f n i := by
  rw [pL, if_neg h3, if_neg h7]
  rfl
theorem p_or (f : Nat) (HB : ∀ f', f' ≤ f → LevelC q a c sz l 79 (fun i => pL l f' 2 i)) : LevelC q a c sz l 55 (fun i => pL l (f + 1) 1 i) := by
  intro i W h hr
  have hr0 : pL l (f + 1) 1 i = rowR l f 1 i := pL_row l f 1 i (by omega) (by omega)
  simp only at hr ⊢
  rw [hr0] at hr ⊢
  have HX : Hid (Calls Tryd.prog 78 #[.pointer (some ⟨q, 0, none⟩), .int .i64 1, .func (.func 79) #[.pointer (some ⟨q, 0, none⟩)] #[], .bool false] W (Reads q a c sz l W (rowR l f 1 i))) := zH (p_row 1 f 79 false (by decide) (fun _ _ => rfl) HB h hr)
  have hmf : ∀ (fn : Fn) (first cap : Array Value) (w : World), (Instr.makeFunc fn first cap).run Tryd.prog w = .ok (.func fn first cap) w := fun _ _ _ _ => rfl
  obtain ⟨r, hrr⟩ : ∃ r, rowR l f 1 i = r := ⟨_, rfl⟩
  rw [hrr] at hr HX ⊢
  clear hr0 HB h hrr
  cases r with
  | out => exact absurd rfl hr
  | no j =>
    clear hr
    go_enter Tryd.func55, Tryd.ntmps55
    go_wp2_with (first
      | (go_at_call 78; refine HX.out.mono ?_; rintro e w1 ⟨rfl, h1⟩; have M1 := zH h1; clear h1))
    exact ⟨rfl, rfl, M1.out⟩
  | ok t j =>
    clear hr
    go_enter Tryd.func55, Tryd.ntmps55
    go_wp2_with (first
      | (go_at_call 78; refine HX.out.mono ?_; rintro e w1 h1; obtain ⟨g, rfl, h3, h4, h5⟩ := h1.get; have M1 := zH (And.intro h3 (And.intro h4 h5)); clear h1 h3 h4 h5))
    go_ret
    exact Reads.mk_ M1.out.1 M1.out.2.1 M1.out.2.2
theorem p_and (f : Nat) (HB : ∀ f', f' ≤ f → LevelC q a c sz l 94 (fun i => pL l f' 3 i)) : LevelC q a c sz l 79 (fun i => pL l (f + 1) 2 i) := by
  intro i W h hr
  have hr0 : pL l (f + 1) 2 i = rowR l f 2 i := pL_row l f 2 i (by omega) (by omega)
  simp only at hr ⊢
  rw [hr0] at hr ⊢
  have HX : Hid (Calls Tryd.prog 78 #[.pointer (some ⟨q, 0, none⟩), .int .i64 2, .func (.func 94) #[.pointer (some ⟨q, 0, none⟩)] #[], .bool false] W (Reads q a c sz l W (rowR l f 2 i))) := zH (p_row 2 f 94 false (by decide) (fun _ _ => rfl) HB h hr)
  have hmf : ∀ (fn : Fn) (first cap : Array Value) (w : World), (Instr.makeFunc fn first cap).run Tryd.prog w = .ok (.func fn first cap) w := fun _ _ _ _ => rfl
  obtain ⟨r, hrr⟩ : ∃ r, rowR l f 2 i = r := ⟨_, rfl⟩
  rw [hrr] at hr HX ⊢
  clear hr0 HB h hrr
  cases r with
  | out => exact absurd rfl hr
  | no j =>
    clear hr
    go_enter Tryd.func79, Tryd.ntmps79
    go_wp2_with (first
      | (go_at_call 78; refine HX.out.mono ?_; rintro e w1 ⟨rfl, h1⟩; have M1 := zH h1; clear h1))
    exact ⟨rfl, rfl, M1.out⟩
  | ok t j =>
    clear hr
    go_enter Tryd.func79, Tryd.ntmps79
    go_wp2_with (first
      | (go_at_call 78; refine HX.out.mono ?_; rintro e w1 h1; obtain ⟨g, rfl, h3, h4, h5⟩ := h1.get; have M1 := zH (And.intro h3 (And.intro h4 h5)); clear h1 h3 h4 h5))
    go_ret
    exact Reads.mk_ M1.out.1 M1.out.2.1 M1.out.2.2
theorem p_cmp (f : Nat) (HB : ∀ f', f' ≤ f → LevelC q a c sz l 107 (fun i => pL l f' 5 i)) : LevelC q a c sz l 104 (fun i => pL l (f + 1) 4 i) := by
  intro i W h hr
  have hr0 : pL l (f + 1) 4 i = rowR l f 4 i := pL_row l f 4 i (by omega) (by omega)
  simp only at hr ⊢
  rw [hr0] at hr ⊢
  have HX : Hid (Calls Tryd.prog 78 #[.pointer (some ⟨q, 0, none⟩), .int .i64 4, .func (.func 107) #[.pointer (some ⟨q, 0, none⟩)] #[], .bool true] W (Reads q a c sz l W (rowR l f 4 i))) := zH (p_row 4 f 107 true (by decide) (fun _ _ => rfl) HB h hr)
  have hmf : ∀ (fn : Fn) (first cap : Array Value) (w : World), (Instr.makeFunc fn first cap).run Tryd.prog w = .ok (.func fn first cap) w := fun _ _ _ _ => rfl
  obtain ⟨r, hrr⟩ : ∃ r, rowR l f 4 i = r := ⟨_, rfl⟩
  rw [hrr] at hr HX ⊢
  clear hr0 HB h hrr
  cases r with
  | out => exact absurd rfl hr
  | no j =>
    clear hr
    go_enter Tryd.func104, Tryd.ntmps104
    go_wp2_with (first
      | (go_at_call 78; refine HX.out.mono ?_; rintro e w1 ⟨rfl, h1⟩; have M1 := zH h1; clear h1))
    exact ⟨rfl, rfl, M1.out⟩
  | ok t j =>
    clear hr
    go_enter Tryd.func104, Tryd.ntmps104
    go_wp2_with (first
      | (go_at_call 78; refine HX.out.mono ?_; rintro e w1 h1; obtain ⟨g, rfl, h3, h4, h5⟩ := h1.get; have M1 := zH (And.intro h3 (And.intro h4 h5)); clear h1 h3 h4 h5))
    go_ret
    exact Reads.mk_ M1.out.1 M1.out.2.1 M1.out.2.2
theorem p_sum (f : Nat) (HB : ∀ f', f' ≤ f → LevelC q a c sz l 108 (fun i => pL l f' 6 i)) : LevelC q a c sz l 107 (fun i => pL l (f + 1) 5 i) := by
  intro i W h hr
  have hr0 : pL l (f + 1) 5 i = rowR l f 5 i := pL_row l f 5 i (by omega) (by omega)
  simp only at hr ⊢
  rw [hr0] at hr ⊢
  have HX : Hid (Calls Tryd.prog 78 #[.pointer (some ⟨q, 0, none⟩), .int .i64 5, .func (.func 108) #[.pointer (some ⟨q, 0, none⟩)] #[], .bool false] W (Reads q a c sz l W (rowR l f 5 i))) := zH (p_row 5 f 108 false (by decide) (fun _ _ => rfl) HB h hr)
  have hmf : ∀ (fn : Fn) (first cap : Array Value) (w : World), (Instr.makeFunc fn first cap).run Tryd.prog w = .ok (.func fn first cap) w := fun _ _ _ _ => rfl
  obtain ⟨r, hrr⟩ : ∃ r, rowR l f 5 i = r := ⟨_, rfl⟩
  rw [hrr] at hr HX ⊢
  clear hr0 HB h hrr
  cases r with
  | out => exact absurd rfl hr
  | no j =>
    clear hr
    go_enter Tryd.func107, Tryd.ntmps107
    go_wp2_with (first
      | (go_at_call 78; refine HX.out.mono ?_; rintro e w1 ⟨rfl, h1⟩; have M1 := zH h1; clear h1))
    exact ⟨rfl, rfl, M1.out⟩
  | ok t j =>
    clear hr
    go_enter Tryd.func107, Tryd.ntmps107
    go_wp2_with (first
      | (go_at_call 78; refine HX.out.mono ?_; rintro e w1 h1; obtain ⟨g, rfl, h3, h4, h5⟩ := h1.get; have M1 := zH (And.intro h3 (And.intro h4 h5)); clear h1 h3 h4 h5))
    go_ret
    exact Reads.mk_ M1.out.1 M1.out.2.1 M1.out.2.2
theorem p_prod (f : Nat) (HB : ∀ f', f' ≤ f → LevelC q a c sz l 109 (fun i => pL l f' 7 i)) : LevelC q a c sz l 108 (fun i => pL l (f + 1) 6 i) := by
  intro i W h hr
  have hr0 : pL l (f + 1) 6 i = rowR l f 6 i := pL_row l f 6 i (by omega) (by omega)
  simp only at hr ⊢
  rw [hr0] at hr ⊢
  have HX : Hid (Calls Tryd.prog 78 #[.pointer (some ⟨q, 0, none⟩), .int .i64 6, .func (.func 109) #[.pointer (some ⟨q, 0, none⟩)] #[], .bool false] W (Reads q a c sz l W (rowR l f 6 i))) := zH (p_row 6 f 109 false (by decide) (fun _ _ => rfl) HB h hr)
  have hmf : ∀ (fn : Fn) (first cap : Array Value) (w : World), (Instr.makeFunc fn first cap).run Tryd.prog w = .ok (.func fn first cap) w := fun _ _ _ _ => rfl
  obtain ⟨r, hrr⟩ : ∃ r, rowR l f 6 i = r := ⟨_, rfl⟩
  rw [hrr] at hr HX ⊢
  clear hr0 HB h hrr
  cases r with
  | out => exact absurd rfl hr
  | no j =>
    clear hr
    go_enter Tryd.func108, Tryd.ntmps108
    go_wp2_with (first
      | (go_at_call 78; refine HX.out.mono ?_; rintro e w1 ⟨rfl, h1⟩; have M1 := zH h1; clear h1))
    exact ⟨rfl, rfl, M1.out⟩
  | ok t j =>
    clear hr
    go_enter Tryd.func108, Tryd.ntmps108
    go_wp2_with (first
      | (go_at_call 78; refine HX.out.mono ?_; rintro e w1 h1; obtain ⟨g, rfl, h3, h4, h5⟩ := h1.get; have M1 := zH (And.intro h3 (And.intro h4 h5)); clear h1 h3 h4 h5))
    go_ret
    exact Reads.mk_ M1.out.1 M1.out.2.1 M1.out.2.2
theorem p_all (q : Nat) (a : Option Addr) (c sz : Nat) (l : List Tok) : ∀ F f : Nat, f ≤ F → LevelC q a c sz l 55 (fun i => pL l f 1 i) ∧ LevelC q a c sz l 79 (fun i => pL l f 2 i) ∧ LevelC q a c sz l 94 (fun i => pL l f 3 i) ∧ LevelC q a c sz l 104 (fun i => pL l f 4 i) ∧ LevelC q a c sz l 107 (fun i => pL l f 5 i) ∧ LevelC q a c sz l 108 (fun i => pL l f 6 i) ∧ LevelC q a c sz l 109 (fun i => pL l f 7 i) ∧ LevelC q a c sz l 110 (fun i => pP l f i) := by
  have zero : ∀ (fn : FuncId) (n : Nat), LevelC q a c sz l fn (fun i => pL l 0 n i) := fun fn n i W h hr => absurd (by simp only [pL]) hr
  intro F
  induction F with
  | zero =>
    intro f hf
    obtain rfl : f = 0 := by omega
    exact ⟨zero _ _, zero _ _, zero _ _, zero _ _, zero _ _, zero _ _, zero _ _, fun i W h hr => absurd (by simp only [pP]) hr⟩
  | succ F ih =>
    intro f hf
    rcases Nat.lt_or_ge f (F + 1) with h1 | h1
    · exact ih f (by omega)
    · obtain rfl : f = F + 1 := by omega
      have hF := ih F zL
      exact ⟨p_or F (fun f' h => (ih f' h).2.1), p_and F (fun f' h => (ih f' h).2.2.1), p_not F hF.2.2.1 hF.2.2.2.1, p_cmp F (fun f' h => (ih f' h).2.2.2.2.1), p_sum F (fun f' h => (ih f' h).2.2.2.2.2.1), p_prod F (fun f' h => (ih f' h).2.2.2.2.2.2.1), p_post F hF.2.2.2.2.2.2.2, p_prim F hF.1⟩
theorem p_top (h : PSt q a c sz l 0 W) : Calls Tryd.prog 55 #[.pointer (some ⟨q, 0, none⟩)] W (Reads q a c sz l W (pL l (12 * l.length + 10) 1 0)) := by
  refine (p_all q a c sz l (12 * l.length + 10) (12 * l.length + 10) zL).1 0 W h ?_
  intro e
  have := parse_told l
  simp only at e
  rw [e] at this
  exact this
end
end Go.Proofs.YtpkggobhhieeoaaDoor
namespace Go.Proofs.YtpkggobhhieeoaaDoor
open Go.RowKit
theorem Quiet.cells {w w' : World} (h : Quiet w w') : ∀ p, w'.cell? p = w.cell? p := by
  obtain ⟨n, rfl⟩ := h
  exact fun _ => rfl
end Go.Proofs.YtpkggobhhieeoaaDoor
namespace Go.Proofs.YtpkggobhhieeoaaDoor
open Go.RowKit
def ENode.Is (w : World) (B : Nat) (x : List Value) (d : EN) : Prop := ∃ kv, x = [.int .i64 (d.kind : Int), .string (txt d.text), .int .i64 d.num, kv] ∧ SlR w B 1 IsNat kv d.kids
theorem EL.read {X : World} {B : Nat} {v : Value} {es : List (EN × Value)} (h : EL X B v es) : SlR X X.heap.size 4 (ENode.Is X X.heap.size) v (es.map (·.1)) := by
  obtain ⟨a, c, rfl, h1, h2, h3⟩ := h.main.read (by omega)
  refine ⟨a, c, by rw [List.length_map], by rw [List.length_map]; exact h1, h2, fun hl => ?_⟩
  rw [List.length_map] at hl
  obtain ⟨b, off, hb, hlt, hat⟩ := h3 hl
  refine ⟨b, off, hb, hlt, fun i y hy => ?_⟩
  rw [List.getElem?_map] at hy
  cases he : es[i]? with
  | none => rw [he] at hy; cases hy
  | some p =>
    rw [he] at hy
    injection hy with hy
    subst hy
    obtain ⟨x, hx, ⟨hR, _⟩, hc⟩ := hat i p he
    exact ⟨x, hx, ⟨p.2, hR, (h.kids i p he).read (by omega)⟩, hc⟩
def ParseIs (w : World) (R : List EN × Nat × Nat) (e : Ending) (w' : World) : Prop :=
  ∃ v, e = .returned (.tuple #[.agg #[v], .int .i64 (R.2.1 : Int), .int .i64 (R.2.2 : Int)]) ∧ SlR w' w'.heap.size 4 (ENode.Is w' w'.heap.size) v R.1 ∧ Below w.heap.size w w'
theorem parse_any (s : ByteArray) (hs : s.size ≤ maxLen) (w : World) (hm : Marks w) (hg : Signs w) : Calls Tryd.prog 39 #[.string s] w (ParseIs w (parseN (bs s))) := by
  have hmf : ∀ (fn : Fn) (first cap : Array Value) (w : World), (Instr.makeFunc fn first cap).run Tryd.prog w = .ok (.func fn first cap) w := fun _ _ _ _ => rfl
  have HS := zH (fun W (hW : Below w.heap.size w W) => scan_any s hs W (hm.below hW))
  have HG := zH hg
  have h1w : 4 < w.heap.size := by
    obtain ⟨t, fr, h⟩ := signs_block hg
    rcases Nat.lt_or_ge 4 w.heap.size with h0 | h0
    · exact h0
    · rw [Array.getElem?_eq_none h0] at h; cases h
  have B0 : Hid (Below w.heap.size w (((w.alloc (.cells #[.slice none 0 0] 69)).alloc (.cells #[.int .i64 0] 3)).alloc (.cells #[.int .i64 0] 23))) := zH (((zB.alloc zL _).alloc (by simp) _).alloc (by simp; omega) _)
  have X0 := zH (Bx.new w)
  obtain ⟨R, hR⟩ : ∃ R, scanN (bs s) = R := ⟨_, rfl⟩
  by_cases he : R.2.2 = 0
  · have hgd := scan_good (bs_bytes s) (by rw [hR]; exact he)
    have hpl := scan_place (l := bs s)
    rw [hR] at hgd hpl HS
    obtain ⟨toks, at_, err⟩ := R
    simp only at he hgd hpl
    subst he
    obtain ⟨hgood, hfew, hs4⟩ := hgd
    obtain ⟨R2, hR2⟩ : ∃ R2, parseN (bs s) = R2 := ⟨_, rfl⟩
    rw [hR2]
    obtain ⟨sz, hsz⟩ : ∃ z, s.size = z := ⟨_, rfl⟩
    have hbl : (bs s).length = sz := by rw [bs_len, hsz]
    have HGD := zH hgood
    have HPL := zH hpl
    have HFW := zH hfew
    have hsz5 : (sz : Int) ≤ 5000 := by rw [hbl] at hs4; omega
    have HSZ := zH hsz
    -- what the grammar says of it
    have hpn : ∀ r, pL toks (12 * toks.length + 10) 1 0 = r → R2 = (match r.bind (fun t i => if i < toks.length then PR.no i else .ok t i) with
        | .ok t _ => if 256 < t.size ∨ 32 < t.deep then ([], 0, 4) else (t.flat 0, 0, 0)
        | .no i => ([], (match toks[i]? with | some x => x.place.toNat | none => sz), 80)
        | .out => ([], 0, 0)) := by
      intro r hr
      rw [← hR2, ← hr]
      unfold parseN parseT
      rw [hR, if_neg (by simp)]
      simp only [hbl]
      rfl
    have HPN := zH hpn
    obtain ⟨r, hrr⟩ : ∃ r, pL toks (12 * toks.length + 10) 1 0 = r := ⟨_, rfl⟩
    have hin := parse_told toks
    rw [hrr] at hin
    have HR2 := zH (hpn r hrr)
    have HT : Hid (∀ (q : Nat) (a : Option Addr) (c : Nat) (X : World), PSt q a c sz toks 0 X → Calls Tryd.prog 55 #[.pointer (some ⟨q, 0, none⟩)] X (Reads q a c sz toks X r)) := zH (fun q a c X h => by rw [← hrr]; exact p_top h)
    clear hm hg hR hgood hpl hfew hs4 hR2 hbl hpn HPN hrr
    -- the state in which the parser begins
    have HP : Hid (∀ (w1 : World) (a : Option Addr) (n c : Nat), Own1 w1 (((w.alloc (.cells #[.slice none 0 0] 69)).alloc (.cells #[.int .i64 0] 3)).alloc (.cells #[.int .i64 0] 23)).heap.size 110 4 Tok.Is (.slice a n c) toks → Below w.heap.size w w1 → Bx w1 w.heap.size (.slice none 0 0) 0 0 →
        ∀ X1, X1 = ((w1.setCell ⟨w.heap.size + 1, 0, none⟩ (.int .i64 (at_ : Int))).setCell ⟨w.heap.size + 1 + 1, 0, none⟩ (.int .i64 0)).alloc (.cells #[.slice a n c, .int .i64 0, .int .i64 (sz : Int)] 102) →
        n = toks.length ∧ PSt w1.heap.size a c sz toks 0 X1 ∧ Bx X1 w.heap.size (.slice none 0 0) at_ 0 ∧ Below w.heap.size w X1 ∧ w.heap.size + 2 < w1.heap.size) := zH (fun w1 a n c hO hB hX X1 hX1 => by
      subst hX1
      obtain ⟨a', c', hform⟩ := hO.form
      injection hform with _ e2 _
      subst e2
      have h2 := hX.set2 (at_ : Int) 0
      have lb := hX.err.lt
      have hO2 : Own1 ((w1.setCell ⟨w.heap.size + 1, 0, none⟩ (.int .i64 (at_ : Int))).setCell ⟨w.heap.size + 1 + 1, 0, none⟩ (.int .i64 0)) (((w.alloc (.cells #[.slice none 0 0] 69)).alloc (.cells #[.int .i64 0] 3)).alloc (.cells #[.int .i64 0] 23)).heap.size 110 4 Tok.Is (.slice a toks.length c) toks := (hO.setFar (by simp) _).setFar (by simp) _
      have hsz2 : ((w1.setCell ⟨w.heap.size + 1, 0, none⟩ (.int .i64 (at_ : Int))).setCell ⟨w.heap.size + 1 + 1, 0, none⟩ (.int .i64 0)).heap.size = w1.heap.size := by rw [World.size_setCell, World.size_setCell]
      have hR := hO2.read (by omega)
      rw [hsz2] at hR
      have ba := (Below.refl w1.heap.size ((w1.setCell ⟨w.heap.size + 1, 0, none⟩ (.int .i64 (at_ : Int))).setCell ⟨w.heap.size + 1 + 1, 0, none⟩ (.int .i64 0))).alloc (Nat.le_of_eq hsz2.symm) (.cells #[.slice a toks.length c, .int .i64 0, .int .i64 (sz : Int)] 102)
      have bw := (hB.trans h2.2).trans (ba.mono hB.size)
      refine ⟨rfl, ⟨hR.below ba, Blk.new_ hsz2.symm _ _, by omega, ?_, Nat.zero_le _, by have := HFW.out; omega, HGD.out⟩, h2.1.below ba lb, bw, lb⟩
      exact HG.out.of_block (bw.block 4 h1w))
    cases r with
    | out => exact absurd hin (by simp [PR.In])
    | no i =>
      have hres : R2 = ([], (match toks[i]? with | some x => x.place.toNat | none => sz), 80) := HR2.out
      obtain ⟨k, hk⟩ : ∃ k : Nat, placeAt toks sz i = (k : Int) ∧ (match toks[i]? with | some x => x.place.toNat | none => sz) = k := by
        unfold placeAt
        cases hx : toks[i]? with
        | none => exact ⟨sz, rfl, rfl⟩
        | some x =>
          have h0 := HPL.out x (List.mem_iff_getElem?.2 ⟨i, hx⟩)
          exact ⟨x.place.toNat, by simp only; omega, rfl⟩
      rw [hk.2] at hres
      subst hres
      have HK := zH hk.1
      clear hk hin HR2
      go_enter_defers Tryd.func39, Tryd.ntmps39
      go_wp2_with (first
        | (go_at_call 53; refine (HS.out _ B0.out).mono ?_; rintro e w1 ⟨a, n, c, rfl, hO, hB⟩; have X1 := zH (X0.out.below hB (by simp)); have B1 : Hid (Below w.heap.size w w1) := zH (B0.out.trans (hB.mono B0.out.size)); have O1 := zH hO; obtain ⟨c0, c1, c2, z0, z1, z2, lb⟩ := X1.out.cells; clear hO hB))
      generalize hwq : World.alloc (World.setCell (World.setCell _ _ _) _ _) _ = W2
      obtain ⟨rfl, hp, hx, hb, lbw⟩ := HP.out w1 a n c O1.out B1.out X1.out W2 (by rw [← hwq])
      clear hwq c0 c1 c2 z0 z1 z2 lb O1 X1 B0 X0
      have P2 := zH hp
      have X2 := zH hx
      have B2 := zH hb
      have LBW := zH lbw
      clear hp hx hb lbw
      refine (HT.out _ _ _ _ P2.out).mono ?_
      rintro e w5 ⟨rfl, h5⟩
      have q2 : w.heap.size + 2 < w1.heap.size := LBW.out
      have X5 := X2.out.below h5.low q2
      have B5 : Below w.heap.size w w5 := B2.out.trans (h5.low.mono (by omega))
      rw [HK.out]
      clear P2 X2 B2 HT HP HS HPL HGD
      refine leaves_cons (f := 54) (args := #[.pointer (some ⟨w.heap.size, 0, none⟩), .pointer (some ⟨w.heap.size + 1, 0, none⟩), .pointer (some ⟨w.heap.size + 1 + 1, 0, none⟩)]) (by simp) (by simp [go_sem]) ?_
      refine (catch_wrong w.heap.size (k : Int) _ _ [] w5 _ ⟨_, _, _, rfl⟩ X5).mono ?_
      rintro e u' wf ⟨rfl, rfl, hBf, hKf⟩
      obtain ⟨c0, c1, c2, z0, z1, z2, lb⟩ := hKf.cells
      have c2' : wf.cell? ⟨w.heap.size + 1 + 1, 0, none⟩ = some (.int .i64 80) := c2
      have HF : Hid (Below w.heap.size w wf) := zH (B5.trans hBf)
      clear c2 hBf hKf X5 B5 z0 z1 z2 lb
      simp [Leaves, settle, results, Tryd.results39, go_sem, c0, c1, c2']
      exact ⟨.slice none 0 0, rfl, SlR.nil_ _ (by unfold maxLen; omega) _, HF.out⟩
    | ok t j =>
      obtain ⟨tl, htl⟩ : ∃ z, toks.length = z := ⟨_, rfl⟩
      have Htl := zH htl
      simp only [PR.In] at hin
      obtain ⟨hin1, hin2, hin3⟩ := hin
      have hfew5 := HFW.out
      rw [htl] at hin2 hfew5
      have j5 : (j : Int) ≤ 5000 := by omega
      have tl63 : tl ≤ 9223372036854775807 := by omega
      clear htl
      by_cases hlt : j < tl
      · obtain ⟨x, hx⟩ := get_some Htl.out hlt
        have hplx := HPL.out x (List.mem_iff_getElem?.2 ⟨j, hx⟩)
        obtain ⟨k, hk⟩ : ∃ k : Nat, x.place = (k : Int) := ⟨x.place.toNat, by omega⟩
        have hres : R2 = ([], k, 80) := by
          have h0 := HR2.out
          simp only [PR.bind] at h0
          rw [if_pos (by rw [Htl.out]; exact hlt)] at h0
          simp only [hx, hk, Int.toNat_natCast] at h0
          exact h0
        subst hres
        have HK : Hid (placeAt toks sz j = (k : Int)) := zH (by unfold placeAt; rw [hx]; exact hk)
        have dlt : decide (j < tl) = true := by simpa using hlt
        clear hx hplx hk hlt HR2
        go_enter_defers Tryd.func39, Tryd.ntmps39
        go_wp2_with (first
          | (go_at_call 53; refine (HS.out _ B0.out).mono ?_; rintro e w1 ⟨a, n, c, rfl, hO, hB⟩; have X1 := zH (X0.out.below hB (by simp)); have B1 : Hid (Below w.heap.size w w1) := zH (B0.out.trans (hB.mono B0.out.size)); have O1 := zH hO; obtain ⟨c0, c1, c2, z0, z1, z2, lb⟩ := X1.out.cells; clear hO hB))
        generalize hwq : World.alloc (World.setCell (World.setCell _ _ _) _ _) _ = W2
        obtain ⟨rfl, hp, hx, hb, lbw⟩ := HP.out w1 a n c O1.out B1.out X1.out W2 (by rw [← hwq])
        clear hwq c0 c1 c2 z0 z1 z2 lb O1 X1 B0 X0
        have P2 := zH hp
        have X2 := zH hx
        have B2 := zH hb
        have LBW := zH lbw
        clear hp hx hb lbw
        refine (HT.out _ _ _ _ P2.out).mono ?_
        rintro e w5 h5
        obtain ⟨g, rfl, hT5, hM5, hP5⟩ := h5.get
        have T5 := zH hT5
        have M5 := zH hM5
        have P5 := zH hP5
        obtain ⟨g0, g1, g2, g3, g4⟩ := hP5.facts
        rw [Htl.out] at g0 ⊢
        have X5 := zH (X2.out.below hM5.low LBW.out)
        have B5 : Hid (Below w.heap.size w w5) := zH (B2.out.trans (hM5.low.mono (by have := LBW.out; omega)))
        clear h5 hT5 hM5 hP5 g2 g3 X2 B2 P2
        go_wp2_with fail
        go_quiet (fail)
        rename_i nq
        have Q6 : Hid (Quiet w5 (w5.drewN nq)) := zH ⟨nq, rfl⟩
        go_wp2_with (first
          | (go_at_call 56; refine (p_give (P5.out.quiet Q6.out)).mono ?_; rintro e w6 ⟨rfl, q6⟩; have Q7 := zH (Q6.out.trans q6); clear q6))
        have lq5 : w.heap.size + 2 < w5.heap.size := by have := LBW.out; have := M5.out.low.size; have := P5.out.box.lt; omega
        have X6 := X5.out.below (Q7.out.below w5.heap.size) lq5
        have B6 : Below w.heap.size w w6 := B5.out.trans (Q7.out.below _)
        rw [HK.out]
        refine leaves_cons (f := 54) (args := #[.pointer (some ⟨w.heap.size, 0, none⟩), .pointer (some ⟨w.heap.size + 1, 0, none⟩), .pointer (some ⟨w.heap.size + 1 + 1, 0, none⟩)]) (by simp) (by simp [go_sem]) ?_
        refine (catch_wrong w.heap.size (k : Int) _ _ [] w6 _ ⟨_, _, _, rfl⟩ X6).mono ?_
        rintro e u' wf ⟨rfl, rfl, hBf, hKf⟩
        obtain ⟨c0, c1, c2, z0, z1, z2, lb⟩ := hKf.cells
        have c2' : wf.cell? ⟨w.heap.size + 1 + 1, 0, none⟩ = some (.int .i64 80) := c2
        have HF : Hid (Below w.heap.size w wf) := zH (B6.trans hBf)
        clear c2 hBf hKf X6 B6 z0 z1 z2 lb g0 g1 g4 HT HP HS HPL HGD
        simp [Leaves, settle, results, Tryd.results39, go_sem, c0, c1, c2']
        exact ⟨.slice none 0 0, rfl, SlR.nil_ _ (by unfold maxLen; omega) _, HF.out⟩
      · have hjt : j = tl := by omega
        subst hjt
        clear hlt
        have hres : R2 = if 256 < t.size ∨ 32 < t.deep then ([], 0, 4) else (t.flat 0, 0, 0) := by
          have h0 := HR2.out
          simp only [PR.bind] at h0
          rw [if_neg (by rw [Htl.out]; omega)] at h0
          exact h0
        have dlt : decide (j < j) = false := by simp
        have HRES := zH hres
        have hsz5 : t.size ≤ 5000 := by omega
        have hdp5 : t.deep ≤ 5000 := by have := deep_le t; omega
        have HTS := zH hsz5
        clear hres HR2
        go_enter_defers Tryd.func39, Tryd.ntmps39
        go_wp2_with (first
          | (go_at_call 53; refine (HS.out _ B0.out).mono ?_; rintro e w1 ⟨a, n, c, rfl, hO, hB⟩; have X1 := zH (X0.out.below hB (by simp)); have B1 : Hid (Below w.heap.size w w1) := zH (B0.out.trans (hB.mono B0.out.size)); have O1 := zH hO; obtain ⟨c0, c1, c2, z0, z1, z2, lb⟩ := X1.out.cells; clear hO hB))
        generalize hwq : World.alloc (World.setCell (World.setCell _ _ _) _ _) _ = W2
        obtain ⟨rfl, hp, hx, hb, lbw⟩ := HP.out w1 a n c O1.out B1.out X1.out W2 (by rw [← hwq])
        clear hwq c0 c1 c2 z0 z1 z2 lb O1 X1 B0 X0
        have P2 := zH hp
        have X2 := zH hx
        have B2 := zH hb
        have LBW := zH lbw
        clear hp hx hb lbw
        refine (HT.out _ _ _ _ P2.out).mono ?_
        rintro e w5 h5
        obtain ⟨g, rfl, hT5, hM5, hP5⟩ := h5.get
        have T5 := zH hT5
        have M5 := zH hM5
        have P5 := zH hP5
        obtain ⟨g0, g1, g2, g3, g4⟩ := hP5.facts
        rw [Htl.out] at g0 ⊢
        have X5 := zH (X2.out.below hM5.low LBW.out)
        have B5 : Hid (Below w.heap.size w w5) := zH (B2.out.trans (hM5.low.mono (by have := LBW.out; omega)))
        clear h5 hT5 hM5 hP5 g2 g3 X2 B2 P2
        go_wp2_with fail
        go_quiet (fail)
        rename_i nq
        have Q6 : Hid (Quiet w5 (w5.drewN nq)) := zH ⟨nq, rfl⟩
        have HFL := zH (p_flat _ w5 t.size t g (w5.drewN nq) (.slice none 0 0) [] zL T5.out (Q6.out.below _) (EL.nil _ _) (by simpa using HTS.out))
        have LQ5 : Hid (w.heap.size + 2 < w5.heap.size) := zH (by have := LBW.out; have := M5.out.low.size; have := P5.out.box.lt; omega)
        obtain ⟨dp, hdp⟩ : ∃ z, t.deep = z := ⟨_, rfl⟩
        obtain ⟨n6, hn6⟩ : ∃ z, t.size = z := ⟨_, rfl⟩
        rw [hdp, hn6] at HRES
        rw [hdp] at hdp5
        rw [hn6] at hsz5
        have HDP := zH hdp
        have HN6 := zH hn6
        clear hdp hn6 g0 g1 g4 HTS
        go_wp2_with (first
          | (go_at_call 57; refine HFL.out.mono ?_; rintro e w6 ⟨v6, es6, rfl, hE6, hm6, hB6⟩; rw [List.nil_append] at hE6; obtain ⟨a6, c6, rfl⟩ := hE6.main.form; have hl6 : es6.length = n6 := by have := congrArg List.length hm6; rw [List.length_map, trFlat_len, HN6.out] at this; exact this
             rw [hl6] at hE6 ⊢; rw [HDP.out]; have E6 := zH hE6; have HM6 : Hid (es6.map (·.1) = t.flat 0) := zH hm6; have hx6 := (X5.out.below (Q6.out.below w5.heap.size) LQ5.out).below hB6 LQ5.out; have X6 := zH hx6; have B6 : Hid (Below w.heap.size w w6) := zH ((B5.out.trans (Q6.out.below _)).trans (hB6.mono (by have := LQ5.out; omega))); obtain ⟨y0, y1, y2', x0, x1, x2', ly2'⟩ := hx6.cells; have y2 : w6.cell? ⟨w.heap.size + 1 + 1, 0, none⟩ = some (.int .i64 0) := y2'; have x2 : w6.frozen? ⟨w.heap.size + 1 + 1, 0, none⟩ = false := x2'; have ly2 : w.heap.size + 1 + 1 < w6.heap.size := ly2'; have ly1 : w.heap.size + 1 < w6.heap.size := by omega
             have ly : w.heap.size < w6.heap.size := by omega
             clear hE6 hm6 hx6 hB6 hl6 y2' x2' ly2'))
        · have hr := HRES.out
          rw [if_pos (by omega)] at hr
          subst hr
          generalize hwq : World.setCell (World.setCell (World.setCell _ _ _) _ _) _ _ = W7
          have hs7 := X6.out.set (.slice none 0 0) 0 4
          have h7 : Bx W7 w.heap.size (.slice none 0 0) 0 4 ∧ Below w.heap.size w6 W7 := by rw [← hwq]; exact hs7
          have E7 : EL W7 w5.heap.size (.slice a6 n6 c6) es6 := by
            rw [← hwq]
            have far : ∀ (p : Addr) (u : Value) (Y : World), p.block < w5.heap.size → EL Y w5.heap.size (.slice a6 n6 c6) es6 → EL (Y.setCell p u) w5.heap.size (.slice a6 n6 c6) es6 := fun p u Y hp h => ⟨h.main.setFar hp u, fun i x hx => (h.kids i x hx).setFar hp u, h.apart⟩
            exact far _ _ _ (by show w.heap.size + 2 < _; exact LQ5.out) (far _ _ _ (by show w.heap.size + 1 < _; have := LQ5.out; omega) (far _ _ _ (by show w.heap.size < _; have := LQ5.out; omega) E6.out))
          have B7 : Hid (Below w.heap.size w W7) := zH (B6.out.trans h7.2)
          have hrd := E7.read
          rw [HM6.out] at hrd
          obtain ⟨c0, c1, c2, z0, z1, z2, lb⟩ := h7.1.cells
          have c2' : W7.cell? ⟨w.heap.size + 1 + 1, 0, none⟩ = some (.int .i64 4) := c2
          clear hwq hs7 c2 z0 z1 z2 lb h7 y0 y1 y2 x0 x1 x2 ly ly1 ly2
          refine leaves_cons (f := 54) (args := #[.pointer (some ⟨w.heap.size, 0, none⟩), .pointer (some ⟨w.heap.size + 1, 0, none⟩), .pointer (some ⟨w.heap.size + 1 + 1, 0, none⟩)]) (by simp) (by simp [go_sem]) ?_
          refine (catch_idle _ _ _ _).mono ?_
          rintro e u' wf ⟨rfl, rfl, rfl⟩
          simp [Leaves, settle, results, Tryd.results39, go_sem, c0, c1, c2']
          exact ⟨(.slice none 0 0), rfl, SlR.nil_ _ (by unfold maxLen; omega) _, B7.out⟩
        · have hr := HRES.out
          rw [if_neg (by omega)] at hr
          subst hr
          generalize hwq : World.setCell (World.setCell (World.setCell _ _ _) _ _) _ _ = W7
          have hs7 := X6.out.set (.slice a6 n6 c6) 0 0
          have h7 : Bx W7 w.heap.size (.slice a6 n6 c6) 0 0 ∧ Below w.heap.size w6 W7 := by rw [← hwq]; exact hs7
          have E7 : EL W7 w5.heap.size (.slice a6 n6 c6) es6 := by
            rw [← hwq]
            have far : ∀ (p : Addr) (u : Value) (Y : World), p.block < w5.heap.size → EL Y w5.heap.size (.slice a6 n6 c6) es6 → EL (Y.setCell p u) w5.heap.size (.slice a6 n6 c6) es6 := fun p u Y hp h => ⟨h.main.setFar hp u, fun i x hx => (h.kids i x hx).setFar hp u, h.apart⟩
            exact far _ _ _ (by show w.heap.size + 2 < _; exact LQ5.out) (far _ _ _ (by show w.heap.size + 1 < _; have := LQ5.out; omega) (far _ _ _ (by show w.heap.size < _; have := LQ5.out; omega) E6.out))
          have B7 : Hid (Below w.heap.size w W7) := zH (B6.out.trans h7.2)
          have hrd := E7.read
          rw [HM6.out] at hrd
          obtain ⟨c0, c1, c2, z0, z1, z2, lb⟩ := h7.1.cells
          have c2' : W7.cell? ⟨w.heap.size + 1 + 1, 0, none⟩ = some (.int .i64 0) := c2
          clear hwq hs7 c2 z0 z1 z2 lb h7 y0 y1 y2 x0 x1 x2 ly ly1 ly2
          refine leaves_cons (f := 54) (args := #[.pointer (some ⟨w.heap.size, 0, none⟩), .pointer (some ⟨w.heap.size + 1, 0, none⟩), .pointer (some ⟨w.heap.size + 1 + 1, 0, none⟩)]) (by simp) (by simp [go_sem]) ?_
          refine (catch_idle _ _ _ _).mono ?_
          rintro e u' wf ⟨rfl, rfl, rfl⟩
          simp [Leaves, settle, results, Tryd.results39, go_sem, c0, c1, c2']
          exact ⟨(.slice a6 n6 c6), rfl, hrd, B7.out⟩
        · have hr := HRES.out
          rw [if_pos (by omega)] at hr
          subst hr
          generalize hwq : World.setCell (World.setCell (World.setCell _ _ _) _ _) _ _ = W7
          have hs7 := X6.out.set (.slice none 0 0) 0 4
          have h7 : Bx W7 w.heap.size (.slice none 0 0) 0 4 ∧ Below w.heap.size w6 W7 := by rw [← hwq]; exact hs7
          have E7 : EL W7 w5.heap.size (.slice a6 n6 c6) es6 := by
            rw [← hwq]
            have far : ∀ (p : Addr) (u : Value) (Y : World), p.block < w5.heap.size → EL Y w5.heap.size (.slice a6 n6 c6) es6 → EL (Y.setCell p u) w5.heap.size (.slice a6 n6 c6) es6 := fun p u Y hp h => ⟨h.main.setFar hp u, fun i x hx => (h.kids i x hx).setFar hp u, h.apart⟩
            exact far _ _ _ (by show w.heap.size + 2 < _; exact LQ5.out) (far _ _ _ (by show w.heap.size + 1 < _; have := LQ5.out; omega) (far _ _ _ (by show w.heap.size < _; have := LQ5.out; omega) E6.out))
          have B7 : Hid (Below w.heap.size w W7) := zH (B6.out.trans h7.2)
          have hrd := E7.read
          rw [HM6.out] at hrd
          obtain ⟨c0, c1, c2, z0, z1, z2, lb⟩ := h7.1.cells
          have c2' : W7.cell? ⟨w.heap.size + 1 + 1, 0, none⟩ = some (.int .i64 4) := c2
          clear hwq hs7 c2 z0 z1 z2 lb h7 y0 y1 y2 x0 x1 x2 ly ly1 ly2
          refine leaves_cons (f := 54) (args := #[.pointer (some ⟨w.heap.size, 0, none⟩), .pointer (some ⟨w.heap.size + 1, 0, none⟩), .pointer (some ⟨w.heap.size + 1 + 1, 0, none⟩)]) (by simp) (by simp [go_sem]) ?_
          refine (catch_idle _ _ _ _).mono ?_
          rintro e u' wf ⟨rfl, rfl, rfl⟩
          simp [Leaves, settle, results, Tryd.results39, go_sem, c0, c1, c2']
          exact ⟨(.slice none 0 0), rfl, SlR.nil_ _ (by unfold maxLen; omega) _, B7.out⟩
  · have hp : parseN (bs s) = ([], R.2.1, R.2.2) := by unfold parseN; rw [hR, if_pos he]
    rw [hp]
    clear hp hm hg
    rw [hR] at HS
    obtain ⟨toks, at_, err⟩ := R
    simp only at he ⊢
    have e1 : ((err : Int) != 0) = true := by simp; omega
    have e2 : ¬ (err : Int) = 0 := by omega
    clear he hR
    go_enter_defers Tryd.func39, Tryd.ntmps39
    go_wp2_with (first
      | (go_at_call 53; refine (HS.out _ B0.out).mono ?_; rintro e w1 ⟨a, n, c, rfl, hO, hB⟩; have X1 := zH (X0.out.below hB (by simp)); have B1 : Hid (Below w.heap.size w w1) := zH (B0.out.trans (hB.mono B0.out.size)); obtain ⟨c0, c1, c2, z0, z1, z2, lb⟩ := X1.out.cells; clear hO hB))
    generalize hwq : World.setCell (World.setCell _ _ _) _ _ = W2
    have hX2 := X1.out.set2 (at_ : Int) (err : Int)
    have h2 : Bx W2 w.heap.size (.slice none 0 0) at_ err ∧ Below w.heap.size w1 W2 := by rw [← hwq]; exact hX2
    clear hwq hX2 c0 c1 c2 z0 z1 z2 lb X0 B0
    have X2 := zH h2.1
    have B2 : Hid (Below w.heap.size w W2) := zH (B1.out.trans h2.2)
    obtain ⟨c0, c1, c2, z0, z1, z2, lb⟩ := h2.1.cells
    clear h2 X1 B1
    have c2' : W2.cell? ⟨w.heap.size + 1 + 1, 0, none⟩ = some (.int .i64 (err : Int)) := c2
    have z2' : W2.frozen? ⟨w.heap.size + 1 + 1, 0, none⟩ = false := z2
    have lb' : w.heap.size + 1 + 1 < W2.heap.size := lb
    have lb1 : w.heap.size + 1 < W2.heap.size := by omega
    have lb0 : w.heap.size < W2.heap.size := by omega
    clear c2 z2 lb
    go_region
    generalize hwq : World.drew _ = W3
    have hX3 := X2.out.set (.slice none 0 0) (at_ : Int) (err : Int)
    have h3 : Bx W3 w.heap.size (.slice none 0 0) at_ err ∧ Below w.heap.size W2 W3 := by rw [← hwq]; exact ⟨hX3.1.below (zB.drew) hX3.1.err.lt, hX3.2.drew⟩
    clear hwq hX3 c0 c1 c2' z0 z1 z2' lb' lb1 lb0 X2
    obtain ⟨c0, c1, c2, z0, z1, z2, lb⟩ := h3.1.cells
    have c2' : W3.cell? ⟨w.heap.size + 1 + 1, 0, none⟩ = some (.int .i64 (err : Int)) := c2
    have B3 : Hid (Below w.heap.size w W3) := zH (B2.out.trans h3.2)
    clear h3 c2 z0 z1 z2 lb
    go_wp2_with fail
    simp [bodyPostD, Leaves, settle, results, Tryd.results39, go_sem, c0, c1, c2']
    exact ⟨.slice none 0 0, rfl, SlR.nil_ _ (by unfold maxLen; omega) _, B3.out⟩
end Go.Proofs.YtpkggobhhieeoaaDoor
namespace Go.Proofs.YtpkggobhhieeoaaDoor
open Go.RowKit
section
variable {X X' : World} {B : Nat} {v v' : Value} {es : List (EN × Value)}
theorem EL.below (h : EL X B v es) (hb : Below X.heap.size X X') : EL X' B v es :=
  ⟨h.main.stay (fun b _ hl => hb.block b hl), fun i p hp => (h.kids i p hp).stay (fun b _ hl => hb.block b hl), h.apart⟩
end
theorem EL.mono {X : World} {B B' : Nat} {v : Value} {es : List (EN × Value)} (h : EL X B v es) (hb : B' ≤ B) : EL X B' v es :=
  ⟨h.main.mono hb, fun i p hp => (h.kids i p hp).mono hb, h.apart⟩
end Go.Proofs.YtpkggobhhieeoaaDoor
namespace Go.Proofs.YtpkggobhhieeoaaDoor
open Go.RowKit
section
variable {q : Nat} {a : Option Addr} {c sz : Nat} {l : List Tok} {i : Nat} {bad : Int} {es : List (EN × Value)} {X : World}
theorem EL.setFar {Y : World} {B : Nat} {v : Value} (h : EL Y B v es) {p : Addr} (hp : p.block < B) (u : Value) : EL (Y.setCell p u) B v es := ⟨h.main.setFar hp u, fun j x hx => (h.kids j x hx).setFar hp u, h.apart⟩
theorem EL.keep {Y Y' : World} {B C : Nat} {v : Value} (h : EL Y B v es) (hb : Below C Y Y') (hC : Y.heap.size ≤ C) : EL Y' B v es := ⟨h.main.below hb hC, fun j x hx => (h.kids j x hx).below hb hC, h.apart⟩
end
end Go.Proofs.YtpkggobhhieeoaaDoor
namespace Go.Proofs.YtpkggobhhieeoaaDoor
open Go.RowKit
theorem EL.add {X w2 w4 : World} {B : Nat} {mv mv' kv : Value} {es : List (EN × Value)} {e : EN} (h : EL X B mv es) (hB : B ≤ X.heap.size) (o o' : Obj) (hk : Own1 w2 X.heap.size 3 1 IsNat kv e.kids)
    (hg : (X.alloc o).grownBy w2 (some X.heap.size)) (hm : Own1 w4 B 116 4 IsEN mv' (es ++ [(e, kv)])) (hg' : (w2.alloc o').grownBy w4 mv.ownBlock) : EL w4 B mv' (es ++ [(e, kv)]) := by
  have hs : X.heap.size < (X.alloc o).heap.size := by rw [World.size_alloc]; omega
  have st : ∀ b, b < X.heap.size → (w2.alloc o').heap[b]? = X.heap[b]? := fun b hb => by
    have h2 : b < w2.heap.size := Nat.lt_of_lt_of_le (Nat.lt_trans hb hs) hg.size
    rw [Below.heap_alloc w2 o' b h2, hg.block b (Nat.lt_trans hb hs) (fun e => by injection e with e; omega), Below.heap_alloc X o b hb]
  have m2 : Own1 (w2.alloc o') B 116 4 IsEN mv es := h.main.stay (fun b hb hl => st b hl)
  have k2 : ∀ (i : Nat) (p : EN × Value), es[i]? = some p → Own1 (w2.alloc o') B 3 1 IsNat p.2 p.1.kids := fun i p hp => (h.kids i p hp).stay (fun b hb hl => st b hl)
  have key : ∀ (i : Nat) (p : EN × Value), (es ++ [(e, kv)])[i]? = some p → es[i]? = some p ∨ (i = es.length ∧ p = (e, kv)) := by
    intro i p hp
    rcases Nat.lt_or_ge i es.length with hl | hl
    · rw [List.getElem?_append_left hl] at hp; exact .inl hp
    · rw [List.getElem?_append_right hl] at hp
      have h0 := (List.getElem?_eq_some_iff.1 hp).1
      simp at h0
      have : i = es.length := by omega
      subst this
      simp at hp
      exact .inr ⟨rfl, hp.symm⟩
  refine ⟨hm, fun i p hp => ?_, fun i j p p' b hij hi hj hb => ?_⟩
  · rcases key i p hp with h1 | ⟨_, rfl⟩
    · exact (k2 i p h1).kept1 m2 (by decide) hg'
    · exact ((hk.mono hB).alloc o').kept1 m2 (by decide) hg'
  · rcases key i p hi with h1 | ⟨e1, rfl⟩
    · rcases key j p' hj with h2 | ⟨e2, rfl⟩
      · exact h.apart i j p p' b hij h1 h2 hb
      · intro e
        have := (h.kids i p h1).block b hb
        have := hk.block b e
        omega
    · rcases key j p' hj with h2 | ⟨e2, rfl⟩
      · intro e
        have := (h.kids j p' h2).block b e
        have := hk.block b hb
        omega
      · omega
end Go.Proofs.YtpkggobhhieeoaaDoor
namespace Go.Proofs.YtpkggobhhieeoaaDoor
open Go.RowKit
theorem rightN_of {l : List Nat} {c : Nat} (h : l[0]? = some c) : rightN l = (decide (l.length ≤ 32) && letterN c && l.all furtherN) := by
  cases l with
  | nil => simp at h
  | cons a t => simp at h; subst h; rfl
theorem letter_any (n : Nat) (w : World) : Calls Tryd.prog 52 #[.int .u8 (n : Int)] w fun e w' => e = .returned (.bool (letterN n)) ∧ Quiet w w' := by
  by_cases h1 : 65 ≤ n
  · by_cases h2 : n ≤ 90
    · have hv : letterN n = true := by simp [letterN]; omega
      rw [hv]; clear hv
      go_enter Tryd.func52, Tryd.ntmps52
      go_wp2_with fail
      go_ret
      exact ⟨rfl, Quiet.refl _⟩
    · have a2 : decide ((n : Int) ≤ 90) = false := by simp; omega
      by_cases h3 : 97 ≤ n
      · by_cases h4 : n ≤ 122
        · have hv : letterN n = true := by simp [letterN]; omega
          have a4 : decide ((n : Int) ≤ 122) = true := by simp; omega
          rw [hv]; clear hv
          go_enter Tryd.func52, Tryd.ntmps52
          go_wp2_with fail
          go_ret
          exact ⟨rfl, Quiet.refl _⟩
        · have hv : letterN n = false := by simp [letterN]; omega
          have a4 : decide ((n : Int) ≤ 122) = false := by simp; omega
          rw [hv]; clear hv
          go_enter Tryd.func52, Tryd.ntmps52
          go_wp2_with fail
          go_ret
          exact ⟨rfl, Quiet.refl _⟩
      · have hv : letterN n = false := by simp [letterN]; omega
        have a3 : decide (97 ≤ (n : Int)) = false := by simp; omega
        rw [hv]; clear hv
        go_enter Tryd.func52, Tryd.ntmps52
        go_wp2_with fail
        go_ret
        exact ⟨rfl, Quiet.refl _⟩
  · have hv : letterN n = false := by simp [letterN]; omega
    have a1 : decide (65 ≤ (n : Int)) = false := by simp; omega
    have a3 : decide (97 ≤ (n : Int)) = false := by simp; omega
    have h3 : ¬ 97 ≤ n := by omega
    rw [hv]; clear hv
    go_enter Tryd.func52, Tryd.ntmps52
    go_wp2_with fail
    go_ret
    exact ⟨rfl, Quiet.refl _⟩
theorem letter_of (n : Nat) (b : Bool) (hb : letterN n = b) (w : World) : Calls Tryd.prog 52 #[.int .u8 (n : Int)] w fun e w' => e = .returned (.bool b) ∧ Quiet w w' := hb ▸ letter_any n w
theorem all_take {l : List Nat} {k c : Nat} (h : l[k]? = some c) (p : Nat → Bool) (h1 : (l.take k).all p = true) (h2 : p c = true) : (l.take (k + 1)).all p = true := by
  have hk := (List.getElem?_eq_some_iff.1 h).1
  rw [List.take_succ_eq_append_getElem hk, (List.getElem?_eq_some_iff.1 h).2, List.all_append, h1]
  simp [h2]
theorem all_no {l : List Nat} {k c : Nat} (h : l[k]? = some c) (p : Nat → Bool) (h2 : p c = false) : l.all p = false := by
  rw [List.all_eq_false]
  exact ⟨c, List.mem_iff_getElem?.2 ⟨k, h⟩, by simp [h2]⟩
theorem right_any (s : ByteArray) (hs : s.size ≤ maxLen) (w : World) : Calls Tryd.prog 38 #[.string s] w fun e w' => e = .returned (.bool (rightN (bs s))) ∧ Quiet w w' := by
  unfold maxLen at hs
  obtain ⟨n, hn⟩ : ∃ n, s.size = n := ⟨_, rfl⟩
  have Hn := zH hn
  have hln : (bs s).length = n := by rw [bs_len, hn]
  rw [hn] at hs
  have hn' : (s.size : Int) = (n : Int) := by rw [hn]
  clear hn
  by_cases h0 : n = 0
  · have hv : rightN (bs s) = false := by
      have : bs s = [] := List.eq_nil_of_length_eq_zero (by omega)
      rw [this]; rfl
    have HV := zH hv
    subst h0
    clear hv hln
    go_enter Tryd.func38, Tryd.ntmps38
    go_wp2_with fail
    go_ret
    exact ⟨by rw [HV.out]; rfl, Quiet.refl _⟩
  have h0' : ((n : Int) == 0) = false := by simp; omega
  obtain ⟨c0, hc0, c0256⟩ := get_bs (s := s) (k := 0) (by rw [Hn.out]; omega)
  have hr := rightN_of hc0
  have j0 := fun W => index_txt W 9 Tryd.underlying9 hc0 .i64 0 rfl
  have J0 := zH j0
  have Hc0 := zH hc0
  clear j0 hc0
  by_cases h32 : 32 < n
  · have hv : rightN (bs s) = false := by rw [hr, hln]; simp; omega
    have HV := zH hv
    have j0 := J0.out
    clear hv hln hr
    go_enter Tryd.func38, Tryd.ntmps38
    go_wp2_with fail
    go_ret
    exact ⟨by rw [HV.out]; rfl, Quiet.refl _⟩
  have h32' : decide (32 < (n : Int)) = false := by simp; omega
  rw [hln, show decide (n ≤ 32) = true by simp; omega, Bool.true_and] at hr
  rcases hl0 : letterN c0 with _ | _
  · have hv : rightN (bs s) = false := by rw [hr, hl0]; rfl
    have HV := zH hv
    have L0 := zH (fun W => letter_of c0 false hl0 W)
    have j0 := J0.out
    clear hv hln hr hl0
    go_enter Tryd.func38, Tryd.ntmps38
    go_wp2_with (go_at_call 52; refine (L0.out _).mono ?_; rintro e w1 ⟨rfl, q1⟩)
    go_ret
    exact ⟨by rw [HV.out]; rfl, q1⟩
  rw [hl0, Bool.true_and] at hr
  have L0 := zH (fun W => letter_of c0 true hl0 W)
  have Hr := zH hr
  have Hln := zH hln
  have Hfur0 := zH (show furtherN c0 = true by simp [furtherN, hl0])
  have j0 := J0.out
  clear hr hln hl0
  go_enter Tryd.func38, Tryd.ntmps38
  go_wp2_with (go_at_call 52; refine (L0.out _).mono ?_; rintro e w1 ⟨rfl, q1⟩)
  go_loopw [21] (fun i wr => ∃ k : Nat, 0 ≤ k ∧ k ≤ n ∧ i = .int .i64 k ∧ Hid (((bs s).take k).all furtherN = true) ∧ Quiet w wr) (fun i _ => n - (intOf i).toNat)
  case atStart => exact ⟨0, by omega, by omega, rfl, by simp [Hid], q1⟩
  case round =>
    obtain ⟨k, hk1, hk, rfl, hin, hq⟩ := hrel
    clear j0 q1
    have b0 : (0 : Int) ≤ (k : Int) := Int.natCast_nonneg _
    by_cases hlt : k < n
    · obtain ⟨c, hc, c256⟩ := get_bs (s := s) (k := k) (by rw [Hn.out]; exact hlt)
      have i1 := fun W => index_txt W 9 Tryd.underlying9 hc .i64 _ rfl
      have hcase : (letterN c = true ∧ furtherN c = true) ∨ (letterN c = false ∧ furtherN c = true ∧ 48 ≤ c ∧ c ≤ 57) ∨ (letterN c = false ∧ furtherN c = true ∧ 57 < c ∧ c = 95) ∨ (letterN c = false ∧ furtherN c = false ∧ c < 48 ∧ c ≠ 95) ∨ (letterN c = false ∧ furtherN c = false ∧ 57 < c ∧ c ≠ 95) := by
        rcases h : letterN c with _ | _
        · have e : furtherN c = decide ((48 ≤ c ∧ c ≤ 57) ∨ c = 95) := by simp [furtherN, h]
          rw [e]
          by_cases h1 : c < 48
          · right; right; right; left; refine ⟨rfl, ?_, h1, by omega⟩; simp; omega
          · by_cases h2 : c ≤ 57
            · right; left; refine ⟨rfl, ?_, by omega, h2⟩; simp; omega
            · by_cases h3 : c = 95
              · right; right; left; refine ⟨rfl, ?_, by omega, h3⟩; simp; omega
              · right; right; right; right; refine ⟨rfl, ?_, by omega, h3⟩; simp; omega
        · left; exact ⟨rfl, by simp [furtherN, h]⟩
      rcases hcase with ⟨hl, hf⟩ | ⟨hl, hf, x1, x2⟩ | ⟨hl, hf, x1, x2⟩ | ⟨hl, hf, x1, x2⟩ | ⟨hl, hf, x1, x2⟩
      · have L1 := zH (fun W => letter_of c true hl W)
        have HN := zH (all_take hc furtherN hin.out hf)
        clear hc hf hl
        go_wp2_with (go_at_call 52; refine (L1.out _).mono ?_; rintro e w2 ⟨rfl, q2⟩)
        go_roundw
        case rel => exact ⟨k + 1, by omega, by omega, by go_num, HN.out, hq.trans q2⟩
        case measure => simp [intOf]; omega
      · have L1 := zH (fun W => letter_of c false hl W)
        have y1 : decide ((c : Int) < 48) = false := by simp; omega
        have y2 : decide (57 < (c : Int)) = false := by simp; omega
        have HN := zH (all_take hc furtherN hin.out hf)
        clear hc hf hl
        go_wp2_with (go_at_call 52; refine (L1.out _).mono ?_; rintro e w2 ⟨rfl, q2⟩)
        go_roundw
        case rel => exact ⟨k + 1, by omega, by omega, by go_num, HN.out, hq.trans q2⟩
        case measure => simp [intOf]; omega
      · have L1 := zH (fun W => letter_of c false hl W)
        have y1 : decide ((c : Int) < 48) = false := by simp; omega
        have y3 : ((c : Int) != 95) = false := by simp; omega
        have HN := zH (all_take hc furtherN hin.out hf)
        clear hc hf hl x2
        go_wp2_with (go_at_call 52; refine (L1.out _).mono ?_; rintro e w2 ⟨rfl, q2⟩)
        go_roundw
        case rel => exact ⟨k + 1, by omega, by omega, by go_num, HN.out, hq.trans q2⟩
        case measure => simp [intOf]; omega
      · have L1 := zH (fun W => letter_of c false hl W)
        have y3 : ((c : Int) != 95) = true := by simp; omega
        have HV : Hid (rightN (bs s) = false) := zH (by rw [Hr.out]; exact all_no hc furtherN hf)
        clear hc hf hl x2
        go_wp2_with (go_at_call 52; refine (L1.out _).mono ?_; rintro e w2 ⟨rfl, q2⟩)
        go_ret
        exact ⟨by rw [HV.out]; rfl, hq.trans q2⟩
      · have L1 := zH (fun W => letter_of c false hl W)
        have y1 : decide ((c : Int) < 48) = false := by simp; omega
        have y3 : ((c : Int) != 95) = true := by simp; omega
        have HV : Hid (rightN (bs s) = false) := zH (by rw [Hr.out]; exact all_no hc furtherN hf)
        clear hc hf hl x2
        go_wp2_with (go_at_call 52; refine (L1.out _).mono ?_; rintro e w2 ⟨rfl, q2⟩)
        go_ret
        exact ⟨by rw [HV.out]; rfl, hq.trans q2⟩
    · have hdec : decide (k < n) = false := by simp; omega
      have HV : Hid (rightN (bs s) = true) := zH (by
        have := hin.out
        rw [List.take_of_length_le (by rw [Hln.out]; omega)] at this
        rw [Hr.out]; exact this)
      go_wp2_with fail
      go_ret
      exact ⟨by rw [HV.out]; rfl, hq⟩
end Go.Proofs.YtpkggobhhieeoaaDoor
namespace Go.Proofs.YtpkggobhhieeoaaDoor
open Go.RowKit
def noP (Q : Exit → Act → World → Prop) : Exit → Act → World → Prop := fun e a w => match e with
  | .panic _ => False
  | e => Q e a w
theorem wp_np {P : Program} {c : Code} {Q : Exit → Act → World → Prop} {a : Act} {w : World} (h : c.wp P (noP Q) a w) : c.wp P Q a w :=
  Code.wp_mono (fun e a w h => by cases e <;> first | exact h | exact h.elim) h
end Go.Proofs.YtpkggobhhieeoaaDoor
namespace Go.Proofs.YtpkggobhhieeoaaDoor
open Go.RowKit
theorem unq_len20 : ∀ (f i : Nat) (l o s : List Nat) (k : Nat), Bytes l → unq l f i o = (s, k, 0) → s.length + i + 1 ≤ o.length + k
  | 0, i, l, o, s, k, _, h => by simp [unq] at h
  | f + 1, i, l, o, s, k, hl, h => by
    rw [unq] at h
    split at h
    · injection h with h1 h2
      injection h2 with h2 _
      subst h1 h2
      omega
    · rename_i hi
      split at h
      · rename_i c n m hone
        have hd : Bytes (l.drop i) := fun x hx => hl x (List.mem_of_mem_drop hx)
        obtain ⟨c1, c2, _⟩ := one_some hd (by rw [List.head?_drop]; exact hi) hone
        have := (form_len c).1
        have h3 := unq_len20 f (i + n) l (o ++ [c]) s k hl h
        rw [List.length_append, List.length_singleton] at h3
        omega
      · simp at h
theorem unquote_no {s : List Nat} {a : Nat} (ha : a ≤ s.length) (h : s[a]? ≠ some 34) : unquoteN s (a : Int) = ([], (a : Int), 10) := by
  unfold unquoteN
  rw [if_neg (by omega), Int.toNat_natCast, if_pos h]
section
variable {s : List Nat} {b k : Nat} {t : List Nat}
theorem mark_some (hs : Bytes s) (h : markS s b = .inl (t, k)) : s[b]? = some 34 ∧ quoteAt s b = (t, k, 0) ∧ t ≠ [] ∧ Bytes t ∧ b < k ∧ k ≤ s.length ∧ t.length ≤ s.length := by
  unfold markS at h
  split at h
  · cases h
  · rename_i h1
    split at h
    · cases h
    · rename_i h2
      split at h
      · cases h
      · rename_i h3
        injection h with h
        injection h with e1 e2
        have h2' : (quoteAt s b).2.2 = 0 := by omega
        have hq : quoteAt s b = (t, k, 0) := by rw [← e1, ← e2, ← h2']
        have hi := quote_in hs hq
        have hl := unq_len20 _ _ _ _ _ _ hs hq
        rw [e1] at h3
        refine ⟨by simpa using h1, hq, h3, hi.1, by omega, hi.2.2, ?_⟩
        rw [List.length_nil] at hl
        omega
theorem name_some (hb : b ≤ s.length) (h : nameS s b = .inl (t, k)) : t = cutN s b k ∧ k = nameE s b ∧ b < k ∧ k ≤ s.length := by
  unfold nameS at h
  split at h
  · cases h
  · injection h with h
    injection h with e1 e2
    have := nameE_in hb
    rw [e2] at e1 this
    exact ⟨e1.symm, e2.symm, by omega, this.2⟩
theorem name_none (h : nameS s b = .inr k) : k = b ∧ nameE s b = b := by
  unfold nameS at h
  split at h
  · rename_i h1
    injection h with h
    exact ⟨h.symm, h1⟩
  · cases h
theorem expr_some (hs : Bytes s) (hb : b ≤ s.length) (h : exprS s b = .inl (t, k)) : t = cutN s b k ∧ k = endE s b ∧ b ≤ k ∧ k ≤ s.length ∧ (parseN t).2.2 = 0 := by
  unfold exprS at h
  split at h
  · cases h
  · rename_i h1
    injection h with h
    injection h with e1 e2
    have := end_in hs s.length b hb
    rw [show endTo s s.length b = endE s b from rfl, e2] at this
    rw [e2] at e1 h1
    rw [e1] at h1
    exact ⟨e1.symm, e2.symm, this.1, this.2, by omega⟩
end
theorem insert_some {s : List Nat} (hs : Bytes s) (h4 : s.length ≤ 4096) {b k : Nat} (hb : b ≤ s.length) {p : Pc} (h : insertS s b = .inl (p, k)) : p.ok ∧ b < k ∧ k ≤ s.length := by
  have hc : ∀ x y, y ≤ s.length → Bytes (cutN s x y) ∧ (cutN s x y).length ≤ 4096 := fun x y hy => ⟨cut_bytes hs x y, by rw [cut_len hy]; omega⟩
  have lt : ∀ {i c : Nat}, s[i]? = some c → i + 1 ≤ s.length := fun h => (List.getElem?_eq_some_iff.1 h).1
  have b0 : Bytes ([] : List Nat) := bytes_nil
  unfold insertS at h
  split at h
  · rename_i h1
    cases hn : nameS s (b + 1) with
    | inr j => rw [hn] at h; cases h
    | inl x =>
      obtain ⟨t, j⟩ := x
      rw [hn] at h
      obtain ⟨rfl, _, g1, g2⟩ := name_some (lt h1) hn
      injection h with h
      injection h with e1 e2
      subst e1 e2
      exact ⟨⟨(hc _ _ g2).1, b0, (hc _ _ g2).2, by simp, rfl⟩, by omega, g2⟩
  · split at h
    · rename_i h1
      cases hn : nameS s (b + 1) with
      | inr j => rw [hn] at h; cases h
      | inl x =>
        obtain ⟨t, j⟩ := x
        rw [hn] at h
        obtain ⟨rfl, _, g1, g2⟩ := name_some (lt h1) hn
        simp only [thenS] at h
        split at h
        · rename_i h2
          cases hm : markS s (j + 1) with
          | inr j => rw [hm] at h; cases h
          | inl x =>
            obtain ⟨m, i⟩ := x
            rw [hm] at h
            obtain ⟨_, _, _, m1, m2, m3, m4⟩ := mark_some hs hm
            injection h with h
            injection h with e1 e2
            subst e1 e2
            exact ⟨⟨(hc _ _ g2).1, m1, (hc _ _ g2).2, by show m.length ≤ 4096; omega, rfl⟩, by omega, m3⟩
        · injection h with h
          injection h with e1 e2
          subst e1 e2
          exact ⟨⟨(hc _ _ g2).1, b0, (hc _ _ g2).2, by simp, rfl⟩, by omega, g2⟩
    · split at h
      · rename_i h1
        split at h
        · rename_i h2
          cases hn : nameS s (b + 2) with
          | inr j => rw [hn] at h; cases h
          | inl x =>
            obtain ⟨t, j⟩ := x
            rw [hn] at h
            obtain ⟨rfl, _, g1, g2⟩ := name_some (lt h2) hn
            simp only [thenS] at h
            split at h
            · rename_i h3
              cases hm : nameS s (j + 1) with
              | inr j => rw [hm] at h; cases h
              | inl x =>
                obtain ⟨m, i⟩ := x
                rw [hm] at h
                obtain ⟨rfl, _, m1, m2⟩ := name_some (lt h3) hm
                injection h with h
                injection h with e1 e2
                subst e1 e2
                exact ⟨⟨(hc _ _ g2).1, (hc _ _ m2).1, (hc _ _ g2).2, (hc _ _ m2).2, rfl⟩, by omega, m2⟩
            · injection h with h
              injection h with e1 e2
              subst e1 e2
              exact ⟨⟨(hc _ _ g2).1, b0, (hc _ _ g2).2, by simp, rfl⟩, by omega, g2⟩
        · cases h
      · split at h
        · rename_i h1
          cases hn : exprS s (b + 1) with
          | inr j => rw [hn] at h; cases h
          | inl x =>
            obtain ⟨t, j⟩ := x
            rw [hn] at h
            obtain ⟨rfl, _, g1, g2, _⟩ := expr_some hs (lt h1) hn
            injection h with h
            injection h with e1 e2
            subst e1 e2
            exact ⟨⟨(hc _ _ g2).1, b0, (hc _ _ g2).2, by simp, rfl⟩, by omega, g2⟩
        · cases h
theorem cut_txt (s : ByteArray) (b n : Nat) : s.extract b n = txt (cutN (bs s) b n) := by rw [← txt_bs (s.extract b n), bs_extract]; rfl
end Go.Proofs.YtpkggobhhieeoaaDoor
namespace Go.Proofs.YtpkggobhhieeoaaDoor
open Go.RowKit
theorem parse_in {s : List Nat} (hs : Bytes s) (h4 : s.length ≤ 4096) : (parseN s).2.1 ≤ s.length := by
  rcases scan_cases hs h4 with ⟨T, i', hT, e⟩ | ⟨T, r', i', n, hT, ⟨g1, g2, g3⟩, e⟩
  · rw [parseN_run e]
    cases hp : parseT T with
    | out => exact Nat.zero_le _
    | ok t j => simp only; split <;> exact Nat.zero_le _
    | no i =>
      simp only
      cases hi : T[i]? with
      | none => exact Nat.le_refl _
      | some x =>
        obtain ⟨i1, hx, hle, _⟩ := scan_cut hs h4 hT hi
        simp only
        omega
  · rw [parseN_scan (by rw [e]; simp), e]
    obtain ⟨m, h1, h2, h3⟩ := hT.place hs
    have hr' : Bytes r' := by rw [h3]; exact bytes_drop hs m
    have h5 := (tok_cut hr' g1 g3).1
    rw [h3, List.length_drop] at h5
    simp only
    omega
end Go.Proofs.YtpkggobhhieeoaaDoor
