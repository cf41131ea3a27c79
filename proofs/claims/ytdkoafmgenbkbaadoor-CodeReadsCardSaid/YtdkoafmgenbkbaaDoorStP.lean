/- Chapter 11, the reference's stands. -/
import Derived.Test.YtdkoafmgenbkbaaDoorRCa
import Derived.Test.YtdkoafmgenbkbaaDoorInP
namespace Go.Proofs.YtdkoafmgenbkbaaDoor
set_option linter.unusedSimpArgs false
set_option linter.unusedVariables false
open Go.RowKit

structure StPre (W0 W : World) (g n c : Nat) (la : Option Addr) (ln lc : Nat) (cl : List Ins) (l : List Pl) (i : Nat) (p : Pl) (x : Ins) : Prop where
  hl : SlR W0 W0.heap.size 4 Ins.Is (.slice la ln lc) cl
  hw : Below W0.heap.size W0 W
  hp : KnS W g l
  nl : n = l.length
  nc : n = cl.length + 1
  few : cl.length ≤ 1024
  hi : cl[i]? = some x
  hpi : l[i]? = some p
  good : p.Good i
  arg0 : 0 ≤ x.arg
theorem leads_at {g n c tn : Nat} {l : List Pl} (W : World) (toI h : Int) (bv nv : Value) (ls : List (Int × Int)) (hI : toI = (tn : Int))
   (HP : KnS W g l) (hn : n = l.length) (hto : tn < l.length) (hmax : n ≤ 1025) (hfew : ls.length ≤ 1025) (hb : InR W bv (ls.map (·.1))) (hnx : InR W nv (ls.map (·.2))) :
    Calls Tryd.prog 42 #[.slice (some ⟨g, 0, none⟩) n c, .int .i64 toI, .int .i64 h, bv, nv] W (LedK W g (leadN l tn h ls)) := by
  subst hI
  exact leads_any W tn h bv nv ls HP hn hto hmax hfew hb hnx
theorem LedK.none {W w' : World} {g : Nat} (h : W.grownBy w' (some g)) : LedK W g .none (.returned (.bool false)) w' := ⟨rfl, h, fun _ e => by cases e⟩
theorem LedK.from {W W1 w' : World} {g : Nat} {r : Option (List Pl)} {e : Ending} (h : W.grownBy W1 (some g)) (k : LedK W1 g r e w') : LedK W g r e w' := ⟨k.1, grown_trans h k.2.1, k.2.2⟩
end Go.Proofs.YtdkoafmgenbkbaaDoor
