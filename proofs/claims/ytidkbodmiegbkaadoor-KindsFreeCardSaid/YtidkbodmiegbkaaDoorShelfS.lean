/-
  DERIVED: THE SHELF's CONTRACTS AT THIS DUMP, IN PLAIN WORDS (tools/lay-plain.mjs out of 'YtidkbodmiegbkaaDoorShelfSA.lean', which tools/lay-shelf.mjs wrote): THE SAME DECLARATIONS UNDER THE SAME NAMES: 'import', 'namespace', 'open', 'def', 'theorem' AND NOTHING ELSE: no command of the shelf's: FOR A HAND-IN. Each laying: the table of numbers ('.._ren') and one theorem, a field a fact of the dump's own or the kernel's comparison; each contract: ONE APPLICATION.
-/
import Derived.Shelf.Sort.Plain
import Derived.Shelf.Slices.In.SortNone
import Derived.Test.YtidkbodmiegbkaaDoorProg
namespace Go.Proofs
open Go.Shelf
def Tryd.lays190_ren : Go.Shelf.Ren := ⟨fun | 190 => 19 | 125 => 27 | 258 => 26 | 128 => 46 | 129 => 47 | 302 => 37 | 303 => 38 | 304 => 39 | 305 => 40 | 306 => 41 | 307 => 42 | 308 => 43 | 309 => 44 | 310 => 45 | 333 => 52 | 329 => 53 | 330 => 54 | 334 => 55 | 335 => 56 | 336 => 57 | 344 => 60 | n => n, fun | 31 => 39 | 9 => 9 | 3 => 3 | 46 => 64 | 0 => 0 | 51 => 80 | 53 => 82 | 4 => 4 | 183 => 72 | 182 => 71 | 131 => 77 | 5 => 5 | 218 => 86 | 222 => 90 | 228 => 97 | 229 => 65 | n => n, fun | n => n⟩
theorem Tryd.lays190 : Go.Proofs.Lays.n190 Tryd.prog Tryd.lays190_ren := {
  mixed := by kernel_rfl
  f125 := Tryd.func27.trans (congrArg some (by kernel_rfl))
  f128 := Tryd.func46.trans (congrArg some (by kernel_rfl))
  f129 := Tryd.func47.trans (congrArg some (by kernel_rfl))
  f190 := Tryd.func19.trans (congrArg some (by kernel_rfl))
  f258 := Tryd.func26.trans (congrArg some (by kernel_rfl))
  f302 := Tryd.func37.trans (congrArg some (by kernel_rfl))
  f303 := Tryd.func38.trans (congrArg some (by kernel_rfl))
  f304 := Tryd.func39.trans (congrArg some (by kernel_rfl))
  f305 := Tryd.func40.trans (congrArg some (by kernel_rfl))
  f306 := Tryd.func41.trans (congrArg some (by kernel_rfl))
  f307 := Tryd.func42.trans (congrArg some (by kernel_rfl))
  f308 := Tryd.func43.trans (congrArg some (by kernel_rfl))
  f309 := Tryd.func44.trans (congrArg some (by kernel_rfl))
  f310 := Tryd.func45.trans (congrArg some (by kernel_rfl))
  f329 := Tryd.func53.trans (congrArg some (by kernel_rfl))
  f330 := Tryd.func54.trans (congrArg some (by kernel_rfl))
  f333 := Tryd.func52.trans (congrArg some (by kernel_rfl))
  f334 := Tryd.func55.trans (congrArg some (by kernel_rfl))
  f335 := Tryd.func56.trans (congrArg some (by kernel_rfl))
  f336 := Tryd.func57.trans (congrArg some (by kernel_rfl))
  f344 := Tryd.func60.trans (congrArg some (by kernel_rfl))
  t0 := Tryd.underlying0
  a0 := Tryd.isAgg0
  z0 := Tryd.sizeOf0
  v0 := Tryd.zeroValue0
  t3 := Tryd.underlying3
  a3 := Tryd.isAgg3
  z3 := Tryd.sizeOf3
  v3 := Tryd.zeroValue3
  t4 := Tryd.underlying4
  a4 := Tryd.isAgg4
  z4 := Tryd.sizeOf4
  v4 := Tryd.zeroValue4
  t5 := Tryd.underlying5
  a5 := Tryd.isAgg5
  z5 := Tryd.sizeOf5
  v5 := Tryd.zeroValue5
  t9 := Tryd.underlying9
  a9 := Tryd.isAgg9
  z9 := Tryd.sizeOf9
  v9 := Tryd.zeroValue9
  t31 := Tryd.underlying39
  a31 := Tryd.isAgg39
  z31 := Tryd.sizeOf39
  v31 := Tryd.zeroValue39
  t46 := Tryd.underlying64
  a46 := Tryd.isAgg64
  z46 := Tryd.sizeOf64
  v46 := Tryd.zeroValue64
  t51 := Tryd.underlying80
  a51 := Tryd.isAgg80
  z51 := Tryd.sizeOf80
  v51 := Tryd.zeroValue80
  t53 := Tryd.underlying82
  a53 := Tryd.isAgg82
  z53 := Tryd.sizeOf82
  v53 := Tryd.zeroValue82
  t131 := Tryd.underlying77
  a131 := Tryd.isAgg77
  z131 := Tryd.sizeOf77
  v131 := Tryd.zeroValue77
  t182 := Tryd.underlying71
  a182 := Tryd.isAgg71
  z182 := Tryd.sizeOf71
  v182 := Tryd.zeroValue71
  t183 := Tryd.underlying72
  a183 := Tryd.isAgg72
  z183 := Tryd.sizeOf72
  v183 := Tryd.zeroValue72
  t218 := Tryd.underlying86
  a218 := Tryd.isAgg86
  z218 := Tryd.sizeOf86
  v218 := Tryd.zeroValue86
  t222 := Tryd.underlying90
  a222 := Tryd.isAgg90
  z222 := Tryd.sizeOf90
  v222 := Tryd.zeroValue90
  t228 := Tryd.underlying97
  a228 := Tryd.isAgg97
  z228 := Tryd.sizeOf97
  v228 := Tryd.zeroValue97
  t229 := Tryd.underlying65
  a229 := Tryd.isAgg65
  z229 := Tryd.sizeOf65
  v229 := Tryd.zeroValue65 }
open Go.Sort Go.RowKit in
theorem Tryd.slices_Sort_string (blk off cap : Nat) (ss : List (List UInt8)) (w : World) (hH : Holds encStr w blk off ss.toArray) (hblk : blk < w.heap.size) (hsz : ss.length < 4611686018427387904) :
    Calls Tryd.prog 19 #[.slice (some ⟨blk, off, none⟩) ss.length cap] w fun e w' =>
      e = .returned (.tuple #[]) ∧ ∃ n os, w' = grow (putRow encStr (Sort.ahead w n) blk off (ss.mergeSort fun x y => decide (x ≤ y)).toArray) os := Any.slices_Sort_string Tryd.lays190 blk off cap ss w hH hblk hsz
open Go.RowKit Go.Sort in
/-- .. and plain. (LAID: no walk: one application.) -/
theorem Tryd.slices_Sort_string_none (p : Option Addr) (cap : Nat) (w : World) :
    Calls Tryd.prog 19 #[.slice p 0 cap] w fun e w' => e = .returned (.tuple #[]) ∧ w' = w := Any.slices_Sort_string_none Tryd.lays190 p cap w
end Go.Proofs
