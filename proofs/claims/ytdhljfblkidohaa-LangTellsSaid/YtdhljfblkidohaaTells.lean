/- Concepts, their names and trees are told as the document says: 'topiarylaw04.LangTells' returns true whatever the definition, the name and the tree; no condition but the reach. -/
import Derived.Test.YtdhljfblkidohaaSp4
import Derived.Test.YtdhljfblkidohaaTc3
import Derived.Test.YtdhljfblkidohaaTn4
import Derived.Test.YtdhljfblkidohaaNamesW
import Derived.Test.YtdhljfblkidohaaTn2
import Derived.Test.YtdhljfblkidohaaEqF
import Derived.Test.YtdhljfblkidohaaGr
import Derived.Test.YtdhljfblkidohaaRTree
import Derived.StillTailTactics
import Derived.Test.YtdhljfblkidohaaOpen
import Derived.Test.YtdhljfblkidohaaRows
import Derived.ProofKit
import Derived.OpenShut
import Derived.ShutString
import Derived.ChangeOld
namespace Go.Proofs.Ytdhljfblkidohaa
set_option linter.unusedSimpArgs false
set_option linter.unusedVariables false
open Go.RowKit

theorem Language.Is.shape {w : World} {B : Nat} (x : List Value) (d : Language) (h : Language.Is w B x d) : ∃ (e0 : ByteArray) (e1 : Int) (e2 : Option Addr) (en2 ec2 : Nat) (e3 : Option Addr) (en3 ec3 : Nat) (e4 : Option Addr) (en4 ec4 : Nat) (e5 : Option Addr) (en5 ec5 : Nat) (e6 : Option Addr) (en6 ec6 : Nat) (e7 : Option Addr) (en7 ec7 : Nat), x = [.string e0, .int .i64 e1, .slice e2 en2 ec2, .slice e3 en3 ec3, .slice e4 en4 ec4, .slice e5 en5 ec5, .slice e6 en6 ec6, .slice e7 en7 ec7] := by
  obtain ⟨v2, v3, v4, v5, v6, v7, rfl, h2, h3, h4, h5, h6, h7, _⟩ := h
  obtain ⟨_, _, _, rfl⟩ := h2.form'
  obtain ⟨_, _, _, rfl⟩ := h3.form'
  obtain ⟨_, _, _, rfl⟩ := h4.form'
  obtain ⟨_, _, _, rfl⟩ := h5.form'
  obtain ⟨_, _, _, rfl⟩ := h6.form'
  obtain ⟨_, _, _, rfl⟩ := h7.form'
  exact ⟨_, _, _, _, _, _, _, _, _, _, _, _, _, _, _, _, _, _, _, _, rfl⟩
set_option maxRecDepth 100000 in
set_option maxHeartbeats 4000000 in
theorem lawT_walk {x : List Value} {a : Language} {l : List Side} {v : Value} (s : ByteArray) (hs : s.size ≤ maxLen) (w : World) (hx : Language.Is w w.heap.size x a) (ht : SlR w w.heap.size 4 (Side.Is w w.heap.size) v l) :
    Calls Try.prog 4 #[.agg x.toArray, .string s, v] w fun e w' => e = .returned (.bool true) ∧ Below w.heap.size w w' := by
  obtain ⟨a0, a1, a2, an2, ac2, a3, an3, ac3, a4, an4, ac4, a5, an5, ac5, a6, an6, ac6, a7, an7, ac7, rfl⟩ := Language.Is.shape _ _ hx
  obtain ⟨ta, tn, tc, rfl⟩ := ht.form'
  have htl := ht.len
  have HX := Lib.hid hx
  have HT := Lib.hid ht
  have HTL := Lib.hid htl
  have B0 : Hid (Blk (w.alloc (.cells #[.string a0, .int .i64 a1, .slice a2 an2 ac2, .slice a3 an3 ac3, .slice a4 an4 ac4, .slice a5 an5 ac5, .slice a6 an6 ac6, .slice a7 an7 ac7] 29)) w.heap.size 29 #[.string a0, .int .i64 a1, .slice a2 an2 ac2, .slice a3 an3 ac3, .slice a4 an4 ac4, .slice a5 an5 ac5, .slice a6 an6 ac6, .slice a7 an7 ac7]) := Lib.hid (Blk.new w _ _)
  have H0 : Hid (Below w.heap.size w (w.alloc (.cells #[.string a0, .int .i64 a1, .slice a2 an2 ac2, .slice a3 an3 ac3, .slice a4 an4 ac4, .slice a5 an5 ac5, .slice a6 an6 ac6, .slice a7 an7 ac7] 29))) := Lib.hid ((Below.refl w.heap.size w).alloc (Nat.le_refl _) _)
  clear hx ht htl
  go_enter Try.func4, Try.ntmps4
  try dsimp only [List.append]
  by_cases hbig : 2000 < tn
  · have hb1 : (2000 : Int) < (tn : Int) := by omega
    go_wp2_with (first
      | (go_at_call 5; refine (great_any _ _ HX.out H0.out).mono ?_; rintro e w1 ⟨g1, rfl, hb⟩; have H1 := Lib.hid (H0.out.trans (hb.mono H0.out.size)); clear hb; cases g1)
      | fail)
    all_goals go_ret
    all_goals exact ⟨by simp [hb1], H1.out⟩
  · have hb1 : ¬ (2000 : Int) < (tn : Int) := by omega
    have HBIG := Lib.hid hbig
    clear hbig
    go_wp2_with (first
      | (go_at_call 5; refine (great_any _ _ HX.out H0.out).mono ?_; rintro e w1 ⟨g1, rfl, hb⟩; have H1 := Lib.hid (H0.out.trans (hb.mono H0.out.size)); have B1 := Lib.hid (B0.out.below hb B0.out.lt); have cak := B1.out; have ca0 : w1.cell? ⟨w.heap.size, 0, none⟩ = some (.string a0) := cak.cell (i := 0) rfl; have ca1 : w1.cell? ⟨w.heap.size, 1, none⟩ = some (.int .i64 a1) := cak.cell (i := 1) rfl; have ca2 : w1.cell? ⟨w.heap.size, 2, none⟩ = some (.slice a2 an2 ac2) := cak.cell (i := 2) rfl; have ca3 : w1.cell? ⟨w.heap.size, 3, none⟩ = some (.slice a3 an3 ac3) := cak.cell (i := 3) rfl; have ca4 : w1.cell? ⟨w.heap.size, 4, none⟩ = some (.slice a4 an4 ac4) := cak.cell (i := 4) rfl; have ca5 : w1.cell? ⟨w.heap.size, 5, none⟩ = some (.slice a5 an5 ac5) := cak.cell (i := 5) rfl; have ca6 : w1.cell? ⟨w.heap.size, 6, none⟩ = some (.slice a6 an6 ac6) := cak.cell (i := 6) rfl; have ca7 : w1.cell? ⟨w.heap.size, 7, none⟩ = some (.slice a7 an7 ac7) := cak.cell (i := 7) rfl; clear hb cak; cases g1)
      | (go_at_call 8; refine (twin_any _ _ HX.out H1.out).mono ?_; rintro e w2 ⟨x', rfl, hown, hb⟩; have H2 := Lib.hid (H1.out.trans (hb.mono H1.out.size)); have B2 := Lib.hid (B1.out.below hb B1.out.lt); have hI := hown.is; obtain ⟨e0, e1, e2, en2, ec2, e3, en3, ec3, e4, en4, ec4, e5, en5, ec5, e6, en6, ec6, e7, en7, ec7, rfl⟩ := Language.Is.shape _ _ hI; have HI := Lib.hid hI; clear hb hown hI ca0 ca1 ca2 ca3 ca4 ca5 ca6 ca7)
      | fail)
    rotate_left
    · go_ret
      exact ⟨rfl, H1.out⟩
    generalize hW8 : World.alloc w2 _ = W8
    have b28 : Below w2.heap.size w2 W8 := by rw [← hW8]; exact (Below.refl _ _).alloc (Nat.le_refl _) _
    have BE8 : Hid (Blk W8 w2.heap.size 29 #[.string e0, .int .i64 e1, .slice e2 en2 ec2, .slice e3 en3 ec3, .slice e4 en4 ec4, .slice e5 en5 ec5, .slice e6 en6 ec6, .slice e7 en7 ec7]) := Lib.hid (by rw [← hW8]; exact Blk.new w2 _ _)
    have BA8 := Lib.hid (B2.out.below b28 B2.out.lt)
    have H8 : Hid (Below w.heap.size w W8) := Lib.hid (H2.out.trans (b28.mono H2.out.size))
    have IE : Hid (Language.Is W8 W8.heap.size [.string e0, .int .i64 e1, .slice e2 en2 ec2, .slice e3 en3 ec3, .slice e4 en4 ec4, .slice e5 en5 ec5, .slice e6 en6 ec6, .slice e7 en7 ec7] a) := Lib.hid (HI.out.keep (fun p hp => b28.cell hp) b28.size)
    have IA : Hid (Language.Is W8 W8.heap.size [.string a0, .int .i64 a1, .slice a2 an2 ac2, .slice a3 an3 ac3, .slice a4 an4 ac4, .slice a5 an5 ac5, .slice a6 an6 ac6, .slice a7 an7 ac7] a) := Lib.hid (HX.out.keep (fun p hp => H8.out.cell hp) H8.out.size)
    clear hW8 b28 B0 B1 B2 H0 H1 H2 HI
    go_wp2_with fail
    go_loopw [8] (fun j wr => ∃ k : Nat, k ≤ 2 ∧ j = .int .i64 k ∧ Hid (Below W8.heap.size W8 wr)) (fun j _ => 2 - (intOf j).toNat)
    case atStart => exact ⟨0, Nat.zero_le _, rfl, Below.refl _ _⟩
    case round =>
      obtain ⟨k, hk, rfl, hL⟩ := hrel
      have BEr := Lib.hid (BE8.out.below hL.out BE8.out.lt)
      have BAr := Lib.hid (BA8.out.below hL.out BA8.out.lt)
      have cak := BAr.out
      have cek := BEr.out
      have ca0 : wr.cell? ⟨w.heap.size, 0, none⟩ = some (.string a0) := cak.cell (i := 0) rfl
      have ca1 : wr.cell? ⟨w.heap.size, 1, none⟩ = some (.int .i64 a1) := cak.cell (i := 1) rfl
      have ca2 : wr.cell? ⟨w.heap.size, 2, none⟩ = some (.slice a2 an2 ac2) := cak.cell (i := 2) rfl
      have ca3 : wr.cell? ⟨w.heap.size, 3, none⟩ = some (.slice a3 an3 ac3) := cak.cell (i := 3) rfl
      have ca4 : wr.cell? ⟨w.heap.size, 4, none⟩ = some (.slice a4 an4 ac4) := cak.cell (i := 4) rfl
      have ca5 : wr.cell? ⟨w.heap.size, 5, none⟩ = some (.slice a5 an5 ac5) := cak.cell (i := 5) rfl
      have ca6 : wr.cell? ⟨w.heap.size, 6, none⟩ = some (.slice a6 an6 ac6) := cak.cell (i := 6) rfl
      have ca7 : wr.cell? ⟨w.heap.size, 7, none⟩ = some (.slice a7 an7 ac7) := cak.cell (i := 7) rfl
      have ce0 : wr.cell? ⟨w2.heap.size, 0, none⟩ = some (.string e0) := cek.cell (i := 0) rfl
      have ce1 : wr.cell? ⟨w2.heap.size, 1, none⟩ = some (.int .i64 e1) := cek.cell (i := 1) rfl
      have ce2 : wr.cell? ⟨w2.heap.size, 2, none⟩ = some (.slice e2 en2 ec2) := cek.cell (i := 2) rfl
      have ce3 : wr.cell? ⟨w2.heap.size, 3, none⟩ = some (.slice e3 en3 ec3) := cek.cell (i := 3) rfl
      have ce4 : wr.cell? ⟨w2.heap.size, 4, none⟩ = some (.slice e4 en4 ec4) := cek.cell (i := 4) rfl
      have ce5 : wr.cell? ⟨w2.heap.size, 5, none⟩ = some (.slice e5 en5 ec5) := cek.cell (i := 5) rfl
      have ce6 : wr.cell? ⟨w2.heap.size, 6, none⟩ = some (.slice e6 en6 ec6) := cek.cell (i := 6) rfl
      have ce7 : wr.cell? ⟨w2.heap.size, 7, none⟩ = some (.slice e7 en7 ec7) := cek.cell (i := 7) rfl
      clear cak cek
      by_cases hlt : k < 2
      · have hlt1 : (k : Int) < 2 := by omega
        obtain ⟨C, hC⟩ : ∃ C, (conceptN a.concepts s).getD noC = C := ⟨_, rfl⟩
        obtain ⟨ok, hok⟩ : ∃ ok, (conceptN a.concepts s).isSome = ok := ⟨_, rfl⟩
        have LC : Hid (∀ W, Below W8.heap.size W8 W → Calls Try.prog 9 #[.agg #[.string e0, .int .i64 e1, .slice e2 en2 ec2, .slice e3 en3 ec3, .slice e4 en4 ec4, .slice e5 en5 ec5, .slice e6 en6 ec6, .slice e7 en7 ec7], .string s] W fun e w' => ∃ x' : List Value, e = .returned (.tuple #[.agg x'.toArray, .bool ok]) ∧ Concept.Own w' W.heap.size x' C ∧ Below W.heap.size W w') := Lib.hid (fun W hW => by have := lconcept_any s W W8 IE.out hW; rw [hC, hok] at this; exact this)
        have RC : Hid (∀ W, Below W8.heap.size W8 W → Calls Try.prog 10 #[.agg #[.string a0, .int .i64 a1, .slice a2 an2 ac2, .slice a3 an3 ac3, .slice a4 an4 ac4, .slice a5 an5 ac5, .slice a6 an6 ac6, .slice a7 an7 ac7], .string s] W fun e w' => ∃ x' : List Value, e = .returned (.tuple #[.agg x'.toArray, .bool ok]) ∧ Concept.Is W8 W8.heap.size x' C ∧ Below W.heap.size W w') := Lib.hid (fun W hW => by have := rconcept_any s W W8 IA.out hW; rw [hC, hok] at this; exact this)
        clear hC hok
        go_wp2_with (first
          | (go_at_call 9; refine (LC.out _ hL.out).mono ?_; rintro e w9 ⟨x9, rfl, hown, hb⟩; have L9 := Lib.hid (hL.out.trans (hb.mono hL.out.size)); obtain ⟨f1, f2, f3, rfl, o1, o2, o3, o4⟩ := hown; obtain ⟨pa1, pc1, rfl⟩ := o1.form; obtain ⟨pa2, pc2, rfl⟩ := o2.form; obtain ⟨pa3, pc3, rfl⟩ := o3.form; have OC := Lib.hid (And.intro o1 (And.intro o2 (And.intro o3 o4))); have BE9 := Lib.hid (BEr.out.below hb BEr.out.lt); have BA9 := Lib.hid (BAr.out.below hb BAr.out.lt); clear hb o1 o2 o3 o4 ca0 ce0 ca1 ce1 ca2 ce2 ca3 ce3 ca4 ce4 ca5 ce5 ca6 ce6 ca7 ce7; have cak := BA9.out; have cek := BE9.out; have ca0 : w9.cell? ⟨w.heap.size, 0, none⟩ = some (.string a0) := cak.cell (i := 0) rfl; have ca1 : w9.cell? ⟨w.heap.size, 1, none⟩ = some (.int .i64 a1) := cak.cell (i := 1) rfl; have ca2 : w9.cell? ⟨w.heap.size, 2, none⟩ = some (.slice a2 an2 ac2) := cak.cell (i := 2) rfl; have ca3 : w9.cell? ⟨w.heap.size, 3, none⟩ = some (.slice a3 an3 ac3) := cak.cell (i := 3) rfl; have ca4 : w9.cell? ⟨w.heap.size, 4, none⟩ = some (.slice a4 an4 ac4) := cak.cell (i := 4) rfl; have ca5 : w9.cell? ⟨w.heap.size, 5, none⟩ = some (.slice a5 an5 ac5) := cak.cell (i := 5) rfl; have ca6 : w9.cell? ⟨w.heap.size, 6, none⟩ = some (.slice a6 an6 ac6) := cak.cell (i := 6) rfl; have ca7 : w9.cell? ⟨w.heap.size, 7, none⟩ = some (.slice a7 an7 ac7) := cak.cell (i := 7) rfl; have ce0 : w9.cell? ⟨w2.heap.size, 0, none⟩ = some (.string e0) := cek.cell (i := 0) rfl; have ce1 : w9.cell? ⟨w2.heap.size, 1, none⟩ = some (.int .i64 e1) := cek.cell (i := 1) rfl; have ce2 : w9.cell? ⟨w2.heap.size, 2, none⟩ = some (.slice e2 en2 ec2) := cek.cell (i := 2) rfl; have ce3 : w9.cell? ⟨w2.heap.size, 3, none⟩ = some (.slice e3 en3 ec3) := cek.cell (i := 3) rfl; have ce4 : w9.cell? ⟨w2.heap.size, 4, none⟩ = some (.slice e4 en4 ec4) := cek.cell (i := 4) rfl; have ce5 : w9.cell? ⟨w2.heap.size, 5, none⟩ = some (.slice e5 en5 ec5) := cek.cell (i := 5) rfl; have ce6 : w9.cell? ⟨w2.heap.size, 6, none⟩ = some (.slice e6 en6 ec6) := cek.cell (i := 6) rfl; have ce7 : w9.cell? ⟨w2.heap.size, 7, none⟩ = some (.slice e7 en7 ec7) := cek.cell (i := 7) rfl; clear cak cek; have la9 := BA9.out.lt; have le9 := BE9.out.lt)
          | (go_at_call 10; refine (RC.out _ (L9.out.alloc L9.out.size _)).mono ?_; rintro e w10 ⟨x10, rfl, hI10, hb⟩; have hb2 : Below (w9.heap.size + 1) (w9.alloc (.cells #[.string C.name, .string C.super, .bool C.abs, .slice pa1 C.props.length pc1, .slice pa2 C.kids.length pc2, .slice pa3 C.refs.length pc3] 38)) w10 := (by simpa using hb); have L10 : Hid (Below W8.heap.size W8 w10) := Lib.hid ((L9.out.alloc L9.out.size _).trans (hb2.mono (by have := L9.out.size; omega))); have BC10 : Hid (Blk w10 w9.heap.size 38 #[.string C.name, .string C.super, .bool C.abs, .slice pa1 C.props.length pc1, .slice pa2 C.kids.length pc2, .slice pa3 C.refs.length pc3]) := Lib.hid ((Blk.new w9 _ _).below hb2 (by omega)); have BE10 := Lib.hid ((BE9.out.alloc (.cells #[.string C.name, .string C.super, .bool C.abs, .slice pa1 C.props.length pc1, .slice pa2 C.kids.length pc2, .slice pa3 C.refs.length pc3] 38)).below hb2 (by omega)); have BA10 := Lib.hid ((BA9.out.alloc (.cells #[.string C.name, .string C.super, .bool C.abs, .slice pa1 C.props.length pc1, .slice pa2 C.kids.length pc2, .slice pa3 C.refs.length pc3] 38)).below hb2 (by omega)); have B910 : Hid (Below w9.heap.size w9 w10) := Lib.hid (((Below.refl _ _).alloc (Nat.le_refl _) _).trans (hb2.mono (by omega))); obtain ⟨d0, d1, d2, d3, dn3, dc3, d4, dn4, dc4, d5, dn5, dc5, rfl⟩ := Concept.Is.shape _ _ hI10; have ID := Lib.hid hI10; clear hb hb2 hI10 ca0 ce0 ca1 ce1 ca2 ce2 ca3 ce3 ca4 ce4 ca5 ce5 ca6 ce6 ca7 ce7; have cak := BA10.out; have cek := BE10.out; have ca0 : w10.cell? ⟨w.heap.size, 0, none⟩ = some (.string a0) := cak.cell (i := 0) rfl; have ca1 : w10.cell? ⟨w.heap.size, 1, none⟩ = some (.int .i64 a1) := cak.cell (i := 1) rfl; have ca2 : w10.cell? ⟨w.heap.size, 2, none⟩ = some (.slice a2 an2 ac2) := cak.cell (i := 2) rfl; have ca3 : w10.cell? ⟨w.heap.size, 3, none⟩ = some (.slice a3 an3 ac3) := cak.cell (i := 3) rfl; have ca4 : w10.cell? ⟨w.heap.size, 4, none⟩ = some (.slice a4 an4 ac4) := cak.cell (i := 4) rfl; have ca5 : w10.cell? ⟨w.heap.size, 5, none⟩ = some (.slice a5 an5 ac5) := cak.cell (i := 5) rfl; have ca6 : w10.cell? ⟨w.heap.size, 6, none⟩ = some (.slice a6 an6 ac6) := cak.cell (i := 6) rfl; have ca7 : w10.cell? ⟨w.heap.size, 7, none⟩ = some (.slice a7 an7 ac7) := cak.cell (i := 7) rfl; have ce0 : w10.cell? ⟨w2.heap.size, 0, none⟩ = some (.string e0) := cek.cell (i := 0) rfl; have ce1 : w10.cell? ⟨w2.heap.size, 1, none⟩ = some (.int .i64 e1) := cek.cell (i := 1) rfl; have ce2 : w10.cell? ⟨w2.heap.size, 2, none⟩ = some (.slice e2 en2 ec2) := cek.cell (i := 2) rfl; have ce3 : w10.cell? ⟨w2.heap.size, 3, none⟩ = some (.slice e3 en3 ec3) := cek.cell (i := 3) rfl; have ce4 : w10.cell? ⟨w2.heap.size, 4, none⟩ = some (.slice e4 en4 ec4) := cek.cell (i := 4) rfl; have ce5 : w10.cell? ⟨w2.heap.size, 5, none⟩ = some (.slice e5 en5 ec5) := cek.cell (i := 5) rfl; have ce6 : w10.cell? ⟨w2.heap.size, 6, none⟩ = some (.slice e6 en6 ec6) := cek.cell (i := 6) rfl; have ce7 : w10.cell? ⟨w2.heap.size, 7, none⟩ = some (.slice e7 en7 ec7) := cek.cell (i := 7) rfl; clear cak cek; have la10 := BA10.out.lt; have le10 := BE10.out.lt; have lc10 := BC10.out.lt)
          | (go_at_call 11; refine (names_any _ W8 IE.out (L10.out.alloc L10.out.size _)).mono ?_; rintro e w11 ⟨⟨na, nc, rfl, hown⟩, hb⟩; have ON := Lib.hid hown; have hb2 : Below (w10.heap.size + 1) (w10.alloc (.cells #[.string d0, .string d1, .bool d2, .slice d3 dn3 dc3, .slice d4 dn4 dc4, .slice d5 dn5 dc5] 38)) w11 := (by simpa using hb); have HB11 : Hid (Below w10.heap.size w10 w11) := Lib.hid (((Below.refl _ _).alloc (Nat.le_refl _) _).trans (hb2.mono (by omega))); have L11 : Hid (Below W8.heap.size W8 w11) := Lib.hid (L10.out.trans (HB11.out.mono L10.out.size)); have BD11 : Hid (Blk w11 w10.heap.size 38 #[.string d0, .string d1, .bool d2, .slice d3 dn3 dc3, .slice d4 dn4 dc4, .slice d5 dn5 dc5]) := Lib.hid ((Blk.new w10 _ _).below hb2 (by omega)); have BC11 := Lib.hid (BC10.out.below HB11.out BC10.out.lt); have BE11 := Lib.hid (BE10.out.below HB11.out BE10.out.lt); have BA11 := Lib.hid (BA10.out.below HB11.out BA10.out.lt); have cck := BC11.out; have cdk := BD11.out; have cak := BA11.out; have cek := BE11.out; clear ca0 ce0 ca1 ce1 ca2 ce2 ca3 ce3 ca4 ce4 ca5 ce5 ca6 ce6 ca7 ce7 hown hb hb2 la10 le10 lc10; have ca0 : w11.cell? ⟨w.heap.size, 0, none⟩ = some (.string a0) := cak.cell (i := 0) rfl; have ca1 : w11.cell? ⟨w.heap.size, 1, none⟩ = some (.int .i64 a1) := cak.cell (i := 1) rfl; have ca2 : w11.cell? ⟨w.heap.size, 2, none⟩ = some (.slice a2 an2 ac2) := cak.cell (i := 2) rfl; have ca3 : w11.cell? ⟨w.heap.size, 3, none⟩ = some (.slice a3 an3 ac3) := cak.cell (i := 3) rfl; have ca4 : w11.cell? ⟨w.heap.size, 4, none⟩ = some (.slice a4 an4 ac4) := cak.cell (i := 4) rfl; have ca5 : w11.cell? ⟨w.heap.size, 5, none⟩ = some (.slice a5 an5 ac5) := cak.cell (i := 5) rfl; have ca6 : w11.cell? ⟨w.heap.size, 6, none⟩ = some (.slice a6 an6 ac6) := cak.cell (i := 6) rfl; have ca7 : w11.cell? ⟨w.heap.size, 7, none⟩ = some (.slice a7 an7 ac7) := cak.cell (i := 7) rfl; have ce0 : w11.cell? ⟨w2.heap.size, 0, none⟩ = some (.string e0) := cek.cell (i := 0) rfl; have ce1 : w11.cell? ⟨w2.heap.size, 1, none⟩ = some (.int .i64 e1) := cek.cell (i := 1) rfl; have ce2 : w11.cell? ⟨w2.heap.size, 2, none⟩ = some (.slice e2 en2 ec2) := cek.cell (i := 2) rfl; have ce3 : w11.cell? ⟨w2.heap.size, 3, none⟩ = some (.slice e3 en3 ec3) := cek.cell (i := 3) rfl; have ce4 : w11.cell? ⟨w2.heap.size, 4, none⟩ = some (.slice e4 en4 ec4) := cek.cell (i := 4) rfl; have ce5 : w11.cell? ⟨w2.heap.size, 5, none⟩ = some (.slice e5 en5 ec5) := cek.cell (i := 5) rfl; have ce6 : w11.cell? ⟨w2.heap.size, 6, none⟩ = some (.slice e6 en6 ec6) := cek.cell (i := 6) rfl; have ce7 : w11.cell? ⟨w2.heap.size, 7, none⟩ = some (.slice e7 en7 ec7) := cek.cell (i := 7) rfl; have cc0 : w11.cell? ⟨w9.heap.size, 0, none⟩ = some (.string C.name) := cck.cell (i := 0) rfl; have cc1 : w11.cell? ⟨w9.heap.size, 1, none⟩ = some (.string C.super) := cck.cell (i := 1) rfl; have cc2 : w11.cell? ⟨w9.heap.size, 2, none⟩ = some (.bool C.abs) := cck.cell (i := 2) rfl; have cc3 : w11.cell? ⟨w9.heap.size, 3, none⟩ = some (.slice pa1 C.props.length pc1) := cck.cell (i := 3) rfl; have cc4 : w11.cell? ⟨w9.heap.size, 4, none⟩ = some (.slice pa2 C.kids.length pc2) := cck.cell (i := 4) rfl; have cc5 : w11.cell? ⟨w9.heap.size, 5, none⟩ = some (.slice pa3 C.refs.length pc3) := cck.cell (i := 5) rfl; have cd0 : w11.cell? ⟨w10.heap.size, 0, none⟩ = some (.string d0) := cdk.cell (i := 0) rfl; have cd1 : w11.cell? ⟨w10.heap.size, 1, none⟩ = some (.string d1) := cdk.cell (i := 1) rfl; have cd2 : w11.cell? ⟨w10.heap.size, 2, none⟩ = some (.bool d2) := cdk.cell (i := 2) rfl; have cd3 : w11.cell? ⟨w10.heap.size, 3, none⟩ = some (.slice d3 dn3 dc3) := cdk.cell (i := 3) rfl; have cd4 : w11.cell? ⟨w10.heap.size, 4, none⟩ = some (.slice d4 dn4 dc4) := cdk.cell (i := 4) rfl; have cd5 : w11.cell? ⟨w10.heap.size, 5, none⟩ = some (.slice d5 dn5 dc5) := cdk.cell (i := 5) rfl; clear cck cdk cak cek; have la11 := BA11.out.lt; have le11 := BE11.out.lt; have lc11 := BC11.out.lt; have ld11 := BD11.out.lt)
          | fail)
        have B911 : Below w9.heap.size w9 w11 := B910.out.trans (HB11.out.mono B910.out.size)
        have IC11 : Hid (Concept.Is w11 w11.heap.size [.string C.name, .string C.super, .bool C.abs, .slice pa1 C.props.length pc1, .slice pa2 C.kids.length pc2, .slice pa3 C.refs.length pc3] C) := Lib.hid ⟨_, _, _, rfl, (OC.out.1.below B911 (Nat.le_refl _)).read (by omega), (OC.out.2.1.below B911 (Nat.le_refl _)).read (by omega), (OC.out.2.2.1.below B911 (Nat.le_refl _)).read (by omega), OC.out.2.2.2⟩
        have ID11 : Hid (Concept.Is w11 w11.heap.size [.string d0, .string d1, .bool d2, .slice d3 dn3 dc3, .slice d4 dn4 dc4, .slice d5 dn5 dc5] C) := Lib.hid (ID.out.keep (fun p hp => L11.out.cell hp) L11.out.size)
        have IE11 : Hid (Language.Is w11 w11.heap.size [.string e0, .int .i64 e1, .slice e2 en2 ec2, .slice e3 en3 ec3, .slice e4 en4 ec4, .slice e5 en5 ec5, .slice e6 en6 ec6, .slice e7 en7 ec7] a) := Lib.hid (IE.out.keep (fun p hp => L11.out.cell hp) L11.out.size)
        have IA11 : Hid (Language.Is w11 w11.heap.size [.string a0, .int .i64 a1, .slice a2 an2 ac2, .slice a3 an3 ac3, .slice a4 an4 ac4, .slice a5 an5 ac5, .slice a6 an6 ac6, .slice a7 an7 ac7] a) := Lib.hid (IA.out.keep (fun p hp => L11.out.cell hp) L11.out.size)
        clear B911
        have SC : Hid (Calls Try.prog 12 #[.agg #[.string C.name, .string C.super, .bool C.abs, .slice pa1 C.props.length pc1, .slice pa2 C.kids.length pc2, .slice pa3 C.refs.length pc3], .agg #[.string d0, .string d1, .bool d2, .slice d3 dn3 dc3, .slice d4 dn4 dc4, .slice d5 dn5 dc5]] w11 fun e w' => e = .returned (.bool true) ∧ Below w11.heap.size w11 w') := Lib.hid ((ref_concept _ _ IC11.out ID11.out (Below.refl _ _)).mono fun e w' k => ⟨by rw [k.1]; simp, k.2⟩)
        have SA : Hid (∀ W, Below w11.heap.size w11 W → Calls Try.prog 7 #[.agg #[.string e0, .int .i64 e1, .slice e2 en2 ec2, .slice e3 en3 ec3, .slice e4 en4 ec4, .slice e5 en5 ec5, .slice e6 en6 ec6, .slice e7 en7 ec7], .agg #[.string a0, .int .i64 a1, .slice a2 an2 ac2, .slice a3 an3 ac3, .slice a4 an4 ac4, .slice a5 an5 ac5, .slice a6 an6 ac6, .slice a7 an7 ac7]] W fun e w' => e = .returned (.bool true) ∧ Below W.heap.size W w') := Lib.hid (fun W hW => (ref_same W w11 IE11.out IA11.out hW).mono fun e w' k => ⟨by rw [k.1]; simp, k.2⟩)
        have hok : (ok != ok) = false := by simp
        refine SC.out.mono ?_
        rintro e w12 ⟨rfl, hb⟩
        have L12 : Hid (Below w11.heap.size w11 w12) := Lib.hid hb
        have BA12 := Lib.hid (BA11.out.below hb BA11.out.lt)
        have BE12 := Lib.hid (BE11.out.below hb BE11.out.lt)
        clear hb ca0 ce0 ca1 ce1 ca2 ce2 ca3 ce3 ca4 ce4 ca5 ce5 ca6 ce6 ca7 ce7 cc0 cd0 cc1 cd1 cc2 cd2 cc3 cd3 cc4 cd4 cc5 cd5 la11 le11 lc11 ld11
        have cak := BA12.out
        have ca0 : w12.cell? ⟨w.heap.size, 0, none⟩ = some (.string a0) := cak.cell (i := 0) rfl
        have ca1 : w12.cell? ⟨w.heap.size, 1, none⟩ = some (.int .i64 a1) := cak.cell (i := 1) rfl
        have ca2 : w12.cell? ⟨w.heap.size, 2, none⟩ = some (.slice a2 an2 ac2) := cak.cell (i := 2) rfl
        have ca3 : w12.cell? ⟨w.heap.size, 3, none⟩ = some (.slice a3 an3 ac3) := cak.cell (i := 3) rfl
        have ca4 : w12.cell? ⟨w.heap.size, 4, none⟩ = some (.slice a4 an4 ac4) := cak.cell (i := 4) rfl
        have ca5 : w12.cell? ⟨w.heap.size, 5, none⟩ = some (.slice a5 an5 ac5) := cak.cell (i := 5) rfl
        have ca6 : w12.cell? ⟨w.heap.size, 6, none⟩ = some (.slice a6 an6 ac6) := cak.cell (i := 6) rfl
        have ca7 : w12.cell? ⟨w.heap.size, 7, none⟩ = some (.slice a7 an7 ac7) := cak.cell (i := 7) rfl
        clear cak
        have tokN : True := trivial
        go_wp2_with (first
          | (go_at_call 14; have _t := tokN; refine (rnames_any _ w11 IA11.out L12.out).mono ?_; rintro e w13 ⟨⟨ra, rc, rfl, hown⟩, hb⟩; have L13 : Hid (Below w11.heap.size w11 w13) := Lib.hid (L12.out.trans (hb.mono L12.out.size)); have OR := Lib.hid hown; have BA13 := Lib.hid (BA12.out.below hb BA12.out.lt); have BE13 := Lib.hid (BE12.out.below hb BE12.out.lt); clear hown hb tokN _t ca0 ca1 ca2 ca3 ca4 ca5 ca6 ca7)
          | (go_at_call 13; have _u := OR; refine (ref_texts (l := namesN a) (m := namesN a) _ w13 ((ON.out.below L13.out (Nat.le_refl _)).read (by omega)) (OR.out.read (by omega)) (Below.refl _ _)).mono ?_; rintro e w14 ⟨rfl, hq⟩; have hdd : decide (namesN a = namesN a) = true := (by simp); rw [hdd]; have L14 : Hid (Below w11.heap.size w11 w14) := Lib.hid (L13.out.trans ((hq.below _).mono L13.out.size)); have BA14 := Lib.hid (BA13.out.below (hq.below _) BA13.out.lt); have BE14 := Lib.hid (BE13.out.below (hq.below _) BE13.out.lt); have cak := BA14.out; have cek := BE14.out; clear hq hdd; have ca0 : w14.cell? ⟨w.heap.size, 0, none⟩ = some (.string a0) := cak.cell (i := 0) rfl; have ca1 : w14.cell? ⟨w.heap.size, 1, none⟩ = some (.int .i64 a1) := cak.cell (i := 1) rfl; have ca2 : w14.cell? ⟨w.heap.size, 2, none⟩ = some (.slice a2 an2 ac2) := cak.cell (i := 2) rfl; have ca3 : w14.cell? ⟨w.heap.size, 3, none⟩ = some (.slice a3 an3 ac3) := cak.cell (i := 3) rfl; have ca4 : w14.cell? ⟨w.heap.size, 4, none⟩ = some (.slice a4 an4 ac4) := cak.cell (i := 4) rfl; have ca5 : w14.cell? ⟨w.heap.size, 5, none⟩ = some (.slice a5 an5 ac5) := cak.cell (i := 5) rfl; have ca6 : w14.cell? ⟨w.heap.size, 6, none⟩ = some (.slice a6 an6 ac6) := cak.cell (i := 6) rfl; have ca7 : w14.cell? ⟨w.heap.size, 7, none⟩ = some (.slice a7 an7 ac7) := cak.cell (i := 7) rfl; have ce0 : w14.cell? ⟨w2.heap.size, 0, none⟩ = some (.string e0) := cek.cell (i := 0) rfl; have ce1 : w14.cell? ⟨w2.heap.size, 1, none⟩ = some (.int .i64 e1) := cek.cell (i := 1) rfl; have ce2 : w14.cell? ⟨w2.heap.size, 2, none⟩ = some (.slice e2 en2 ec2) := cek.cell (i := 2) rfl; have ce3 : w14.cell? ⟨w2.heap.size, 3, none⟩ = some (.slice e3 en3 ec3) := cek.cell (i := 3) rfl; have ce4 : w14.cell? ⟨w2.heap.size, 4, none⟩ = some (.slice e4 en4 ec4) := cek.cell (i := 4) rfl; have ce5 : w14.cell? ⟨w2.heap.size, 5, none⟩ = some (.slice e5 en5 ec5) := cek.cell (i := 5) rfl; have ce6 : w14.cell? ⟨w2.heap.size, 6, none⟩ = some (.slice e6 en6 ec6) := cek.cell (i := 6) rfl; have ce7 : w14.cell? ⟨w2.heap.size, 7, none⟩ = some (.slice e7 en7 ec7) := cek.cell (i := 7) rfl; clear cak cek)
          | (go_at_call 7; refine (SA.out _ L14.out).mono ?_; rintro e w15 ⟨rfl, hb⟩; have L15 : Hid (Below w11.heap.size w11 w15) := Lib.hid (L14.out.trans (hb.mono L14.out.size)); clear hb ca0 ce0 ca1 ce1 ca2 ce2 ca3 ce3 ca4 ce4 ca5 ce5 ca6 ce6 ca7 ce7)
          | fail)
        have B911 : Below w9.heap.size w9 w11 := B910.out.trans (HB11.out.mono B910.out.size)
        have B915 : Below w9.heap.size w9 w15 := B911.trans (L15.out.mono B911.size)
        have hw8 : W8.heap.size ≤ wr.heap.size := hL.out.size
        have hw10 : W8.heap.size ≤ (w10.alloc (.cells #[.string d0, .string d1, .bool d2, .slice d3 dn3 dc3, .slice d4 dn4 dc4, .slice d5 dn5 dc5] 38)).heap.size := by have := L10.out.size; simp; omega
        have SP : Hid (SpS W8 w15 w9.heap.size #[.string C.name, .string C.super, .bool C.abs, .slice pa1 C.props.length pc1, .slice pa2 C.kids.length pc2, .slice pa3 C.refs.length pc3] pa1 C.props.length pa2 C.kids.length pa3 C.refs.length na (namesN a).length) := Lib.hid
          ⟨L11.out.trans (L15.out.mono L11.out.size), BC11.out.below L15.out BC11.out.lt,
            fun hn => by obtain ⟨b, h1, h2, h3⟩ := (OC.out.1.below B915 (Nat.le_refl _)).room hn; exact ⟨b, h1, by omega, h3⟩,
            fun hn => by obtain ⟨b, h1, h2, h3⟩ := (OC.out.2.1.below B915 (Nat.le_refl _)).room hn; exact ⟨b, h1, by omega, h3⟩,
            fun hn => by obtain ⟨b, h1, h2, h3⟩ := (OC.out.2.2.1.below B915 (Nat.le_refl _)).room hn; exact ⟨b, h1, by omega, h3⟩,
            fun hn => by obtain ⟨b, h1, h2, h3⟩ := (ON.out.below L15.out (Nat.le_refl _)).room hn; exact ⟨b, h1, Nat.le_trans hw10 h2, h3⟩⟩
        have fb1 : C.props.length * 24 ≤ 140737488355328 := OC.out.2.2.2.1
        have fb2 : C.kids.length * 48 ≤ 140737488355328 := OC.out.2.2.2.2.1
        have fb3 : C.refs.length * 40 ≤ 140737488355328 := OC.out.2.2.2.2.2.1
        have fb4 : (namesN a).length ≤ 9223372036854775807 := by have := (ON.out.read (by omega)).caps; unfold maxLen at this; omega
        clear B911 B915 hw8 hw10
        go_wp2_with fail
        go_loopw [14] (fun j wr => ∃ k : Nat, k ≤ C.props.length ∧ j = .int .i64 k ∧ Hid (SpS W8 wr w9.heap.size #[.string C.name, .string C.super, .bool C.abs, .slice pa1 C.props.length pc1, .slice pa2 C.kids.length pc2, .slice pa3 C.refs.length pc3] pa1 C.props.length pa2 C.kids.length pa3 C.refs.length na (namesN a).length)) (fun j _ => C.props.length - (intOf j).toNat)
        case atStart => exact ⟨0, Nat.zero_le _, rfl, SP.out⟩
        case round =>
          obtain ⟨k1, hk1, rfl, SP1⟩ := hrel
          have bk := SP1.out.box
          have bx1 := bk.cell (i := 3) rfl
          have bl1 := bk.lt
          clear bk
          by_cases hsp1 : k1 < C.props.length
          · obtain ⟨b, hpa, ⟨u, hu⟩, hf, hbl, hset⟩ := SP1.out.at1 hsp1
            have HS := Lib.hid hset
            have hj0 : (0 : Int) ≤ (k1 : Int) := Int.natCast_nonneg _
            have hj1 : (k1 : Int) < ((C.props.length : Nat) : Int) := by omega
            subst hpa
            skip
            clear hset
            go_wp2_with fail
            go_roundw
            case rel => exact ⟨k1 + 1, by omega, by go_num, HS.out _⟩
            case measure => simp [intOf]; omega
          · have hge1 : C.props.length ≤ k1 := by omega
            clear hsp1
            go_wp2_with fail
            go_loopw [15] (fun j wr => ∃ k : Nat, k ≤ C.kids.length ∧ j = .int .i64 k ∧ Hid (SpS W8 wr w9.heap.size #[.string C.name, .string C.super, .bool C.abs, .slice pa1 C.props.length pc1, .slice pa2 C.kids.length pc2, .slice pa3 C.refs.length pc3] pa1 C.props.length pa2 C.kids.length pa3 C.refs.length na (namesN a).length)) (fun j _ => C.kids.length - (intOf j).toNat)
            case atStart => exact ⟨0, Nat.zero_le _, rfl, SP1.out⟩
            case round =>
              obtain ⟨k2, hk2, rfl, SP2⟩ := hrel
              have bk := SP2.out.box
              have bx2 := bk.cell (i := 4) rfl
              have bl2 := bk.lt
              clear bk
              by_cases hsp2 : k2 < C.kids.length
              · obtain ⟨b, hpa, ⟨u, hu⟩, hf, hbl, hset⟩ := SP2.out.at2 hsp2
                have HS := Lib.hid hset
                have hj0 : (0 : Int) ≤ (k2 : Int) := Int.natCast_nonneg _
                have hj1 : (k2 : Int) < ((C.kids.length : Nat) : Int) := by omega
                subst hpa
                skip
                clear hset
                go_wp2_with fail
                go_roundw
                case rel => exact ⟨k2 + 1, by omega, by go_num, HS.out _⟩
                case measure => simp [intOf]; omega
              · have hge2 : C.kids.length ≤ k2 := by omega
                clear hsp2
                go_wp2_with fail
                go_loopw [16] (fun j wr => ∃ k : Nat, k ≤ C.refs.length ∧ j = .int .i64 k ∧ Hid (SpS W8 wr w9.heap.size #[.string C.name, .string C.super, .bool C.abs, .slice pa1 C.props.length pc1, .slice pa2 C.kids.length pc2, .slice pa3 C.refs.length pc3] pa1 C.props.length pa2 C.kids.length pa3 C.refs.length na (namesN a).length)) (fun j _ => C.refs.length - (intOf j).toNat)
                case atStart => exact ⟨0, Nat.zero_le _, rfl, SP2.out⟩
                case round =>
                  obtain ⟨k3, hk3, rfl, SP3⟩ := hrel
                  have bk := SP3.out.box
                  have bx3 := bk.cell (i := 5) rfl
                  have bl3 := bk.lt
                  clear bk
                  by_cases hsp3 : k3 < C.refs.length
                  · obtain ⟨b, hpa, ⟨u, hu⟩, hf, hbl, hset⟩ := SP3.out.at3 hsp3
                    have HS := Lib.hid hset
                    have hj0 : (0 : Int) ≤ (k3 : Int) := Int.natCast_nonneg _
                    have hj1 : (k3 : Int) < ((C.refs.length : Nat) : Int) := by omega
                    subst hpa
                    skip
                    clear hset
                    go_wp2_with fail
                    go_roundw
                    case rel => exact ⟨k3 + 1, by omega, by go_num, HS.out _⟩
                    case measure => simp [intOf]; omega
                  · have hge3 : C.refs.length ≤ k3 := by omega
                    clear hsp3
                    go_wp2_with fail
                    go_loopw [17] (fun j wr => ∃ k : Nat, k ≤ (namesN a).length ∧ j = .int .i64 k ∧ Hid (SpS W8 wr w9.heap.size #[.string C.name, .string C.super, .bool C.abs, .slice pa1 C.props.length pc1, .slice pa2 C.kids.length pc2, .slice pa3 C.refs.length pc3] pa1 C.props.length pa2 C.kids.length pa3 C.refs.length na (namesN a).length)) (fun j _ => (namesN a).length - (intOf j).toNat)
                    case atStart => exact ⟨0, Nat.zero_le _, rfl, SP3.out⟩
                    case round =>
                      obtain ⟨k4, hk4, rfl, SP4⟩ := hrel
                      have bk := SP4.out.box
                      skip
                      have bl4 := bk.lt
                      clear bk
                      by_cases hsp4 : k4 < (namesN a).length
                      · obtain ⟨b, hpa, ⟨u, hu⟩, hf, hbl, hset⟩ := SP4.out.at4 hsp4
                        have HS := Lib.hid hset
                        have hj0 : (0 : Int) ≤ (k4 : Int) := Int.natCast_nonneg _
                        have hj1 : (k4 : Int) < (((namesN a).length : Nat) : Int) := by omega
                        subst hpa
                        simp only [Nat.mul_one] at hu hf
                        clear hset
                        go_wp2_with fail
                        go_roundw
                        case rel => exact ⟨k4 + 1, by omega, by go_num, Lib.hid (by have := HS.out (.string ⟨#[115, 112, 111, 105, 108, 116]⟩); simpa using this)⟩
                        case measure => simp [intOf]; omega
                      · have hge4 : (namesN a).length ≤ k4 := by omega
                        clear hsp4
                        have L16 : Hid (Below W8.heap.size W8 wr) := Lib.hid SP4.out.low
                        go_wp2_with fail
                        go_roundw
                        case rel => exact ⟨k + 1, by omega, by go_num, L16⟩
                        case measure => simp [intOf]; omega
      · have hlt1 : ¬ (k : Int) < 2 := by omega
        clear hlt
        obtain ⟨tb, htb⟩ : ∃ tb, treeB l = tb := ⟨_, rfl⟩
        have heq : (tb == tb) = true := by simp
        have hsm : l.length ≤ 2000 := by have h1 := HBIG.out; have h2 := HTL.out; omega
        have TA : Hid (∀ W, Below w.heap.size w W → Calls Try.prog 15 #[.slice ta tn tc] W fun e w' => e = .returned (.bool tb) ∧ Below W.heap.size W w') := Lib.hid (fun W hW => by have := tree_any W w HT.out hW; rw [htb] at this; exact this)
        have RA : Hid (∀ W, Below w.heap.size w W → Calls Try.prog 16 #[.slice ta tn tc] W fun e w' => e = .returned (.bool tb) ∧ Below W.heap.size W w') := Lib.hid (fun W hW => by have := r_tree W w HT.out hW hsm; rw [htb] at this; exact this)
        have SA : Hid (Calls Try.prog 7 #[.agg #[.string e0, .int .i64 e1, .slice e2 en2 ec2, .slice e3 en3 ec3, .slice e4 en4 ec4, .slice e5 en5 ec5, .slice e6 en6 ec6, .slice e7 en7 ec7], .agg #[.string a0, .int .i64 a1, .slice a2 an2 ac2, .slice a3 an3 ac3, .slice a4 an4 ac4, .slice a5 an5 ac5, .slice a6 an6 ac6, .slice a7 an7 ac7]] wr fun e w' => e = .returned (.bool true) ∧ Below wr.heap.size wr w') := Lib.hid ((ref_same wr W8 IE.out IA.out hL.out).mono fun e w' k => ⟨by rw [k.1]; simp, k.2⟩)
        clear htb hsm
        go_wp2_with (first
          | (go_at_call 7; refine SA.out.mono ?_; rintro e w20 ⟨rfl, hb⟩; have M20 : Hid (Below w.heap.size w w20) := Lib.hid (H8.out.trans ((hL.out.trans (hb.mono hL.out.size)).mono H8.out.size)); clear hb ca0 ce0 ca1 ce1 ca2 ce2 ca3 ce3 ca4 ce4 ca5 ce5 ca6 ce6 ca7 ce7)
          | (go_at_call 15; refine (TA.out _ M20.out).mono ?_; rintro e w21 ⟨rfl, hb⟩; have M21 : Hid (Below w.heap.size w w21) := Lib.hid (M20.out.trans (hb.mono M20.out.size)); clear hb)
          | (go_at_call 16; refine (RA.out _ M21.out).mono ?_; rintro e w22 ⟨rfl, hb⟩; have M22 : Hid (Below w.heap.size w w22) := Lib.hid (M21.out.trans (hb.mono M21.out.size)); clear hb)
          | fail)
        go_ret
        exact ⟨by simp, M22.out⟩

open Go.ChangeShapes Go.WideShapes Go.ChangeAt

theorem own : ownKnob Try.prog.godebug = none := by kernel_rfl
theorem laidOut : laidOutB Try.prog = true := by kernel_rfl

set_option maxRecDepth 100000 in
theorem lifted (os : Os) (started : os.Started) (H : Type) (enc : TypeId × Value → H) :
    ReturnsInHanded {} Try.checked os 4 .any (Rows.langTellsSpec.pre6 enc Try.prog Try.f4 Rows.langTellsRow.domain false) (Rows.langTellsSpec.post enc Try.prog Try.f4 false true false false) := by
  refine returnsInHanded_of_change_sized (C := Try.checked) own started (by kernel_rfl) Try.func4
    (ChangeSpec.witness6 (enc := enc) (C := Try.checked) false ⟨#[], #[.agg #[.string ⟨#[]⟩, .int .i64 0, .slice none 0 0, .slice none 0 0, .slice none 0 0, .slice none 0 0, .slice none 0 0, .slice none 0 0], .string ⟨#[]⟩, .slice none 0 0], []⟩ 8 (by kernel_rfl) (by kernel_rfl) (by kernel_rfl) (by kernel_rfl)) ?_
  intro W base args ds gs before hval0 hW hcnd hwt _
  have hval : ∀ (j : Nat) t v, Try.f4.params[j]? = some t → args[j]? = some v → Value.okWide Try.prog W .any base t v := hval0
  have hW' := hW
  obtain ⟨p, q, hA0, hV, rfl, hfz, hnd⟩ := hW
  have hA : DataW.TrodAll enc Try.prog W 0 (fun _ => true) true Try.f4.params.toList args.toList ds p := hA0
  rw [Try.params4] at hA hval hwt
  obtain ⟨v0, vs0, d0, ds0, p0, q0, hargs, rfl, rfl, h0, r0⟩ := trodAll_cons hA
  obtain ⟨v1, vs1, d1, ds1, p1, q1, rfl, rfl, rfl, h1, r1⟩ := trodAll_cons r0
  obtain ⟨v2, vs2, d2, ds2, p2, q2, rfl, rfl, rfl, h2, r2⟩ := trodAll_cons r1
  obtain ⟨rfl, rfl, rfl⟩ := trodAll_nil r2
  obtain rfl : args = #[v0, v1, v2] := by cases args; simp_all
  obtain ⟨rfl, rfl⟩ := trodVars_none hV
  obtain ⟨x0, rfl, _⟩ := okWide_struct Try.underlying29 (hval 0 29 v0 rfl rfl)
  obtain ⟨s1, rfl⟩ := okWide_string Try.underlying9 (hval 1 9 v1 rfl rfl)
  obtain ⟨sa2, sn2, sc2, rfl⟩ := okWide_slice Try.underlying33 (hval 2 33 v2 rfl rfl)
  have k0 := h0
  have lt0 : ∀ x ∈ p0, x.block < W.heap.size := by obtain ⟨m, hm⟩ := k0; exact DataW.trod_lt m _ _ _ hm
  have k1 := h1
  have lt1 : ∀ x ∈ p1, x.block < W.heap.size := by obtain ⟨m, hm⟩ := k1; exact DataW.trod_lt m _ _ _ hm
  have k2 := h2
  have lt2 : ∀ x ∈ p2, x.block < W.heap.size := by obtain ⟨m, hm⟩ := k2; exact DataW.trod_lt m _ _ _ hm
  have L0 : Light Try.prog 29 d0 := fun n hn => by simpa using List.all_eq_true.1 hwt n (DataW.weights_mem_each (j := 0) rfl rfl n hn)
  obtain ⟨l0, X0⟩ : ∃ l, Language.Is W W.heap.size x0.toList l := by
    obtain ⟨fuel, hf⟩ := h0
    exact open_Language hf L0
  have B1 : s1.size ≤ maxLen := by
    obtain ⟨fuel, hf⟩ := h1
    obtain ⟨s, e, _, b⟩ := DataW.trod_string Try.underlying9 hf
    simp [Value.cells] at e
    subst e
    exact b
  have L2 : Light Try.prog 33 d2 := fun n hn => by simpa using List.all_eq_true.1 hwt n (DataW.weights_mem_each (j := 2) rfl rfl n hn)
  obtain ⟨l2, X2, F2⟩ : ∃ l : List Side, SlR W W.heap.size 4 (Side.Is W W.heap.size) (.slice sa2 sn2 sc2) l ∧ Fit l.length 56 := by
    obtain ⟨fuel, hf⟩ := h2
    exact open_SlR_light (Side.Is W W.heap.size) Try.underlying33 (size := 4) (bytes := 56) (by kernel_rfl) (by decide) (by kernel_rfl) hf L2 (fun n x y _ h hl => open_Side h hl)
  clear hA0 hval0
  have hwalk := lawT_walk s1 B1 W X0 X2
  rw [Array.toArray_toList] at hwalk
  refine hwalk.mono fun e W' ⟨he, bel⟩ => ?_
  subst he
  exact ⟨_, rfl, _, _, _, [], _, [], hW', trodAll_mk1 (shut_bool Try.underlying4 _), (trodAll_cons_mk (Below.trod laidOut (by kernel_rfl) (of_decide_eq_true (by kernel_rfl)) k0 bel lt0) (trodAll_cons_mk (Below.trod laidOut (by kernel_rfl) (of_decide_eq_true (by kernel_rfl)) k1 bel lt1) (trodAll_cons_mk (Below.trod laidOut (by kernel_rfl) (of_decide_eq_true (by kernel_rfl)) k2 bel lt2) trodAll_mk0))), rfl, bel.frame _, fun h => by cases h⟩

theorem over : Rows.langTellsRow.holds Try.pinned (OpenSpec.ofChange Rows.langTellsSpec) :=
  OpenClaim.holds_of_wide 4 Try.f4 rfl rfl rfl rfl rfl rfl rfl ⟨rfl, rfl, rfl, rfl, rfl⟩ rfl rfl rfl rfl rfl (by kernel_rfl) Try.func4 (by kernel_rfl)
    (of_decide_eq_true (by kernel_rfl)) (by unfold Func.isWrapper; first | (rw [if_pos (by decide +kernel)]; kernel_rfl) | (rw [if_neg (by decide +kernel)]; exact ⟨rfl, rfl⟩))
    (fun os started H enc _ => lifted os started H enc)

theorem langTells_holds : Rows.LangTellsSaid := over
#print axioms langTells_holds
end Go.Proofs.Ytdhljfblkidohaa
