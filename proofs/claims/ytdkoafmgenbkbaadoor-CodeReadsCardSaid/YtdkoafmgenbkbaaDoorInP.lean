/- Chapter 11: ins, walked by each Op. -/
import Derived.Test.YtdkoafmgenbkbaaDoorCdB
import Derived.StillTailTactics
import Derived.Deep.RegionHeld3
namespace Go.Proofs.YtdkoafmgenbkbaaDoor
set_option linter.unusedSimpArgs false
set_option linter.unusedVariables false
open Go.RowKit

structure InsPre (W0 W : World) (k g n c : Nat) (la : Option Addr) (ln lc : Nat) (cl : List Ins) (l : List Pl) (i : Nat) (p : Pl) (arg : Int) : Prop where
  hk : Blk W k 56 #[.slice la ln lc, .slice (some ⟨g, 0, none⟩) n c]
  hl : SlR W0 W0.heap.size 4 Ins.Is (.slice la ln lc) cl
  hw : Below W0.heap.size W0 W
  hp : PlS W g l
  nl : n = l.length
  nc : n = cl.length + 1
  few : cl.length ≤ 1024
  hi : i < cl.length
  hpi : l[i]? = some p
  good : p.Good i
  arg0 : 0 ≤ arg
theorem InsPre.apart {W0 W : World} {k g n c : Nat} {la : Option Addr} {ln lc : Nat} {cl : List Ins} {l : List Pl} {i : Nat} {p : Pl} {arg : Int} (I : InsPre W0 W k g n c la ln lc cl l i p arg) : k ≠ g := by
  intro e
  obtain ⟨cs, hcs⟩ := I.hp.blk
  have := I.hk
  rw [e] at this
  unfold Blk at this hcs
  rw [hcs] at this
  injection this with this
  injection this with _ e2 _
  exact absurd e2 (by decide)
theorem quiet_calln {P : Program} {f : FuncId} {args : Array Value} {w : World} {n : Nat} {v : Value} (h : Calls P f args (w.drewN n) fun e w' => e = .returned v ∧ Quiet (w.drewN n) w') :
    Calls P f args (w.drewN n) fun e w'' => e = .returned v ∧ ∃ m, w'' = w.drewN m :=
  h.mono fun _ _ ⟨he, m, hm⟩ => ⟨he, n + m, by rw [hm, World.drewN_drewN]⟩
theorem quiet_calln2 {P : Program} {f : FuncId} {args : Array Value} {w : World} {a n : Nat} {v : Value} (h : Calls P f args (w.drewN (a + n)) fun e w' => e = .returned v ∧ Quiet (w.drewN (a + n)) w') :
    Calls P f args (w.drewN (a + n)) fun e w'' => e = .returned v ∧ ∃ m, w'' = w.drewN (a + m) :=
  h.mono fun _ _ ⟨he, m, hm⟩ => ⟨he, n + m, by rw [hm, World.drewN_drewN, Nat.add_assoc]⟩
theorem lead_at {k g n c to : Nat} {lv : Value} {l : List Pl} (W : World) (toI h : Int) (v : Value) (ls : List (Int × Int)) (hI : toI = (to : Int))
   (HK : Blk W k 56 #[lv, .slice (some ⟨g, 0, none⟩) n c]) (HP : PlS W g l) (hn : n = l.length) (hto : to < l.length) (hmax : n ≤ 1025) (hv : LpR W v ls) :
    Calls Tryd.prog 17 #[.pointer (some ⟨k, 0, none⟩), .int .i64 toI, .int .i64 h, v] W (LedTo W g (leadN l to h ls)) := by
  subst hI
  exact lead_any W to h v ls HK HP hn hto hmax hv
theorem LedTo.none {W w' : World} {g : Nat} (h : W.grownBy w' (some g)) : LedTo W g .none (.returned (.bool false)) w' := ⟨rfl, h, fun _ e => by cases e⟩
theorem LedTo.from {W W1 w' : World} {g : Nat} {r : Option (List Pl)} {e : Ending} (h : W.grownBy W1 (some g)) (k : LedTo W1 g r e w') : LedTo W g r e w' := ⟨k.1, grown_trans h k.2.1, k.2.2⟩
end Go.Proofs.YtdkoafmgenbkbaaDoor
