/-
  NARROWER THAN 'FOR EVERY INPUT', by the rows' own cells (each row's printed sentence says how): KindsOne: laid · KindsNames: laid · KindsParts: laid · KindsPlaces: laid.
  DERIVED. THE GIVEN ROWS OF THIS SEAT. 4 by the template 'for every input the law returns true; each argument reads behind the call as it read before'; 0 by the template 'total and deterministic' (their statements: YtidkbodmiegbkaaGreatDoorTotals.lean).
  GIVEN WITH THE SEED: the statements are not yours to turn. If you find one false, say at which input.
  Laid BY PROGRAM, IN A SANDBOX (cutbox-rows.mjs): the forced cells as the released guide's own fill.sh prints them over the translation 00e81eabe9506333… (all of the seat's roots in one cut). By AI agents, Wed Nov 11 2026. No macro, syntax, notation, axiom, sorry.
-/
import Derived.Test.YtidkbodmiegbkaaGreatDoorChecked
import GoSem.Claim
import GoSem.ClaimJoined
import GoSem.ClaimMapViews
import Derived.JoinedTies
import Derived.KernelRfl
namespace Go.Proofs.YtidkbodmiegbkaaGreatDoor
/- THE CELL 'sum', in the pinned program and in every row, IS THE sha256 OF THE DUMP (.gsa) THAT YtidkbodmiegbkaaGreatDoorProg.lean LOADS. Nothing in Lean hashes anything: it is a label: what it is worth is what the hold of that sum in a sandbox is worth. -/
noncomputable def Tryz.pinned : Pinned := { name := "ytidkbodmiegbkaagreatdoor", sum := "00e81eabe95063335d14d181c87ed07b9f0acb248592b17c8e6c08d0c3fe2d21", checked := Tryz.checked }
namespace Rows
def none {H : Type} : Left H := { results := [], args := [] }

/- WHAT THE LISTED PACKAGE-LEVEL VARIABLES READ AS WHEN THE CALL BEGINS. Each datum BY PROGRAM (the guide's laid-datum.mjs) off the statement by which the dump's own 'gosem.cut.vars' lays the variable. In a bare row this is a premise. The card (YtidkbodmiegbkaaGreatDoorCards.lean) ties it to the program's text. -/
def laid_math_bits_deBruijn32tab {H : Type} : DataW H := .agg [.lit (.int .u8 0), .lit (.int .u8 1), .lit (.int .u8 28), .lit (.int .u8 2), .lit (.int .u8 29), .lit (.int .u8 14), .lit (.int .u8 24), .lit (.int .u8 3), .lit (.int .u8 30), .lit (.int .u8 22), .lit (.int .u8 20), .lit (.int .u8 15), .lit (.int .u8 25), .lit (.int .u8 17), .lit (.int .u8 4), .lit (.int .u8 8), .lit (.int .u8 31), .lit (.int .u8 27), .lit (.int .u8 13), .lit (.int .u8 23), .lit (.int .u8 21), .lit (.int .u8 19), .lit (.int .u8 16), .lit (.int .u8 7), .lit (.int .u8 26), .lit (.int .u8 12), .lit (.int .u8 18), .lit (.int .u8 6), .lit (.int .u8 11), .lit (.int .u8 5), .lit (.int .u8 10), .lit (.int .u8 9)]
def laid_math_bits_deBruijn64tab {H : Type} : DataW H := .agg [.lit (.int .u8 0), .lit (.int .u8 1), .lit (.int .u8 56), .lit (.int .u8 2), .lit (.int .u8 57), .lit (.int .u8 49), .lit (.int .u8 28), .lit (.int .u8 3), .lit (.int .u8 61), .lit (.int .u8 58), .lit (.int .u8 42), .lit (.int .u8 50), .lit (.int .u8 38), .lit (.int .u8 29), .lit (.int .u8 17), .lit (.int .u8 4), .lit (.int .u8 62), .lit (.int .u8 47), .lit (.int .u8 59), .lit (.int .u8 36), .lit (.int .u8 45), .lit (.int .u8 43), .lit (.int .u8 51), .lit (.int .u8 22), .lit (.int .u8 53), .lit (.int .u8 39), .lit (.int .u8 33), .lit (.int .u8 30), .lit (.int .u8 24), .lit (.int .u8 18), .lit (.int .u8 12), .lit (.int .u8 5), .lit (.int .u8 63), .lit (.int .u8 55), .lit (.int .u8 48), .lit (.int .u8 27), .lit (.int .u8 60), .lit (.int .u8 41), .lit (.int .u8 37), .lit (.int .u8 16), .lit (.int .u8 46), .lit (.int .u8 35), .lit (.int .u8 44), .lit (.int .u8 21), .lit (.int .u8 52), .lit (.int .u8 32), .lit (.int .u8 23), .lit (.int .u8 11), .lit (.int .u8 54), .lit (.int .u8 26), .lit (.int .u8 40), .lit (.int .u8 15), .lit (.int .u8 34), .lit (.int .u8 20), .lit (.int .u8 31), .lit (.int .u8 10), .lit (.int .u8 25), .lit (.int .u8 14), .lit (.int .u8 19), .lit (.int .u8 9), .lit (.int .u8 13), .lit (.int .u8 8), .lit (.int .u8 7), .lit (.int .u8 6)]
def laid_internal_strconv_uint64pow10 {H : Type} : DataW H := .agg [.lit (.int .u64 1), .lit (.int .u64 10), .lit (.int .u64 100), .lit (.int .u64 1000), .lit (.int .u64 10000), .lit (.int .u64 100000), .lit (.int .u64 1000000), .lit (.int .u64 10000000), .lit (.int .u64 100000000), .lit (.int .u64 1000000000), .lit (.int .u64 10000000000), .lit (.int .u64 100000000000), .lit (.int .u64 1000000000000), .lit (.int .u64 10000000000000), .lit (.int .u64 100000000000000), .lit (.int .u64 1000000000000000), .lit (.int .u64 10000000000000000), .lit (.int .u64 100000000000000000), .lit (.int .u64 1000000000000000000), .lit (.int .u64 10000000000000000000)]
def laid_topiary_lex_marks {H : Type} : DataW H := .agg [.lit (.string [45, 62]), .lit (.string [33, 33]), .lit (.string [33, 61]), .lit (.string [61, 61]), .lit (.string [60, 61]), .lit (.string [46]), .lit (.string [35]), .lit (.string [94]), .lit (.string [63]), .lit (.string [40]), .lit (.string [41]), .lit (.string [43]), .lit (.string [45]), .lit (.string [42]), .lit (.string [60]), .lit (.string [58])]
def laid_topiary_expr_signs {H : Type} : DataW H := .agg [.agg [.lit (.string [111, 114]), .lit (.int .i64 28), .lit (.int .i64 1)], .agg [.lit (.string [97, 110, 100]), .lit (.int .i64 27), .lit (.int .i64 2)], .agg [.lit (.string [61, 61]), .lit (.int .i64 23), .lit (.int .i64 4)], .agg [.lit (.string [33, 61]), .lit (.int .i64 24), .lit (.int .i64 4)], .agg [.lit (.string [60]), .lit (.int .i64 25), .lit (.int .i64 4)], .agg [.lit (.string [60, 61]), .lit (.int .i64 26), .lit (.int .i64 4)], .agg [.lit (.string [43]), .lit (.int .i64 20), .lit (.int .i64 5)], .agg [.lit (.string [45]), .lit (.int .i64 21), .lit (.int .i64 5)], .agg [.lit (.string [42]), .lit (.int .i64 22), .lit (.int .i64 6)], .agg [.lit (.string [46]), .lit (.int .i64 8), .lit (.int .i64 7)], .agg [.lit (.string [35]), .lit (.int .i64 9), .lit (.int .i64 7)], .agg [.lit (.string [45, 62]), .lit (.int .i64 10), .lit (.int .i64 7)], .agg [.lit (.string [94]), .lit (.int .i64 11), .lit (.int .i64 7)], .agg [.lit (.string [63]), .lit (.int .i64 12), .lit (.int .i64 7)], .agg [.lit (.string [33, 33]), .lit (.int .i64 13), .lit (.int .i64 7)]]
def laid_topiary_kinds_takes {H : Type} : DataW H := .agg [.agg [.lit (.int .i64 0), .lit (.int .i64 0), .lit (.int .i64 0)], .agg [.lit (.int .i64 0), .lit (.int .i64 0), .lit (.int .i64 1)], .agg [.lit (.int .i64 0), .lit (.int .i64 0), .lit (.int .i64 2)], .agg [.lit (.int .i64 0), .lit (.int .i64 0), .lit (.int .i64 3)], .agg [.lit (.int .i64 0), .lit (.int .i64 0), .lit (.int .i64 3)], .agg [.lit (.int .i64 0), .lit (.int .i64 0), .lit (.int .i64 4)], .agg [.lit (.int .i64 0), .lit (.int .i64 0), .lit (.int .i64 4)], .agg [.lit (.int .i64 0), .lit (.int .i64 0), .lit (.int .i64 0)], .agg [.lit (.int .i64 4), .lit (.int .i64 0), .lit (.int .i64 2)], .agg [.lit (.int .i64 4), .lit (.int .i64 0), .lit (.int .i64 5)], .agg [.lit (.int .i64 4), .lit (.int .i64 0), .lit (.int .i64 4)], .agg [.lit (.int .i64 4), .lit (.int .i64 0), .lit (.int .i64 4)], .agg [.lit (.int .i64 4), .lit (.int .i64 0), .lit (.int .i64 3)], .agg [.lit (.int .i64 4), .lit (.int .i64 0), .lit (.int .i64 5)], .agg [.lit (.int .i64 5), .lit (.int .i64 0), .lit (.int .i64 1)], .agg [.lit (.int .i64 5), .lit (.int .i64 0), .lit (.int .i64 4)], .agg [.lit (.int .i64 1), .lit (.int .i64 0), .lit (.int .i64 2)], .agg [.lit (.int .i64 4), .lit (.int .i64 0), .lit (.int .i64 2)], .agg [.lit (.int .i64 4), .lit (.int .i64 0), .lit (.int .i64 1)], .agg [.lit (.int .i64 2), .lit (.int .i64 0), .lit (.int .i64 1)], .agg [.lit (.int .i64 0), .lit (.int .i64 0), .lit (.int .i64 0)], .agg [.lit (.int .i64 1), .lit (.int .i64 1), .lit (.int .i64 1)], .agg [.lit (.int .i64 1), .lit (.int .i64 1), .lit (.int .i64 1)], .agg [.lit (.int .i64 0), .lit (.int .i64 0), .lit (.int .i64 0)], .agg [.lit (.int .i64 0), .lit (.int .i64 0), .lit (.int .i64 0)], .agg [.lit (.int .i64 0), .lit (.int .i64 0), .lit (.int .i64 0)], .agg [.lit (.int .i64 0), .lit (.int .i64 0), .lit (.int .i64 0)], .agg [.lit (.int .i64 3), .lit (.int .i64 3), .lit (.int .i64 3)], .agg [.lit (.int .i64 3), .lit (.int .i64 3), .lit (.int .i64 3)], .agg [.lit (.int .i64 3), .lit (.int .i64 0), .lit (.int .i64 3)], .agg [.lit (.int .i64 0), .lit (.int .i64 0), .lit (.int .i64 0)], .agg [.lit (.int .i64 5), .lit (.int .i64 3), .lit (.int .i64 3)], .agg [.lit (.int .i64 5), .lit (.int .i64 3), .lit (.int .i64 3)], .agg [.lit (.int .i64 5), .lit (.int .i64 3), .lit (.int .i64 5)], .agg [.lit (.int .i64 5), .lit (.int .i64 1), .lit (.int .i64 1)]]

/-- 'topiarylaw09.KindsOne': WHATEVER THE INPUT: true; the input reads as it did. -/
def kindsOneSpec : ChangeSpec := { name := "kindsOne", fn := fun _ => fun
  | [d] => { results := [.lit (.bool true)], args := [d] }
  | _ => none }
def kindsOneRow : OpenClaim := { program := "ytidkbodmiegbkaagreatdoor", sum := "00e81eabe95063335d14d181c87ed07b9f0acb248592b17c8e6c08d0c3fe2d21", func := "topiary/topiarylaw09.KindsOne", spec := "kindsOne", inPlace := ["internal/abi.NoEscape"], unfollowed := true, recurses := true, named := ["topiary/lex.marks", "topiary/expr.signs", "internal/strconv.uint64pow10", "math/bits.deBruijn32tab", "math/bits.deBruijn64tab", "topiary/kinds.takes"], apart := false, laid := [("math/bits.deBruijn32tab", laid_math_bits_deBruijn32tab), ("math/bits.deBruijn64tab", laid_math_bits_deBruijn64tab), ("internal/strconv.uint64pow10", laid_internal_strconv_uint64pow10), ("topiary/lex.marks", laid_topiary_lex_marks), ("topiary/expr.signs", laid_topiary_expr_signs), ("topiary/kinds.takes", laid_topiary_kinds_takes)] }
def KindsOneSaid : Prop := kindsOneRow.holds Tryz.pinned (OpenSpec.ofChange kindsOneSpec)

/-- ITS FALSE NEIGHBOUR: 'it returns false'. Refute it at one input. -/
def kindsOneWrong : ChangeSpec := { name := "kindsOne", fn := fun _ => fun
  | [d] => { results := [.lit (.bool false)], args := [d] }
  | _ => none }
def KindsOneWrongFalsely : Prop := kindsOneRow.holds Tryz.pinned (OpenSpec.ofChange kindsOneWrong)

/-- 'topiarylaw09.KindsNames': WHATEVER THE INPUT: true; the input reads as it did. -/
def kindsNamesSpec : ChangeSpec := { name := "kindsNames", fn := fun _ => fun
  | [d1, d2, d3] => { results := [.lit (.bool true)], args := [d1, d2, d3] }
  | _ => none }
def kindsNamesRow : OpenClaim := { program := "ytidkbodmiegbkaagreatdoor", sum := "00e81eabe95063335d14d181c87ed07b9f0acb248592b17c8e6c08d0c3fe2d21", func := "topiary/topiarylaw09.KindsNames", spec := "kindsNames", inPlace := ["internal/abi.NoEscape"], unfollowed := true, recurses := true, named := ["topiary/lex.marks", "topiary/expr.signs", "internal/strconv.uint64pow10", "math/bits.deBruijn32tab", "math/bits.deBruijn64tab", "topiary/kinds.takes"], apart := false, laid := [("math/bits.deBruijn32tab", laid_math_bits_deBruijn32tab), ("math/bits.deBruijn64tab", laid_math_bits_deBruijn64tab), ("internal/strconv.uint64pow10", laid_internal_strconv_uint64pow10), ("topiary/lex.marks", laid_topiary_lex_marks), ("topiary/expr.signs", laid_topiary_expr_signs), ("topiary/kinds.takes", laid_topiary_kinds_takes)] }
def KindsNamesSaid : Prop := kindsNamesRow.holds Tryz.pinned (OpenSpec.ofChange kindsNamesSpec)

/-- ITS FALSE NEIGHBOUR: 'it returns false'. Refute it at one input. -/
def kindsNamesWrong : ChangeSpec := { name := "kindsNames", fn := fun _ => fun
  | [d1, d2, d3] => { results := [.lit (.bool false)], args := [d1, d2, d3] }
  | _ => none }
def KindsNamesWrongFalsely : Prop := kindsNamesRow.holds Tryz.pinned (OpenSpec.ofChange kindsNamesWrong)

/-- 'topiarylaw09.KindsParts': WHATEVER THE INPUT: true; the input reads as it did. -/
def kindsPartsSpec : ChangeSpec := { name := "kindsParts", fn := fun _ => fun
  | [d] => { results := [.lit (.bool true)], args := [d] }
  | _ => none }
def kindsPartsRow : OpenClaim := { program := "ytidkbodmiegbkaagreatdoor", sum := "00e81eabe95063335d14d181c87ed07b9f0acb248592b17c8e6c08d0c3fe2d21", func := "topiary/topiarylaw09.KindsParts", spec := "kindsParts", inPlace := ["internal/abi.NoEscape"], unfollowed := true, recurses := true, named := ["topiary/lex.marks", "topiary/expr.signs", "internal/strconv.uint64pow10", "math/bits.deBruijn32tab", "math/bits.deBruijn64tab", "topiary/kinds.takes"], apart := false, laid := [("math/bits.deBruijn32tab", laid_math_bits_deBruijn32tab), ("math/bits.deBruijn64tab", laid_math_bits_deBruijn64tab), ("internal/strconv.uint64pow10", laid_internal_strconv_uint64pow10), ("topiary/lex.marks", laid_topiary_lex_marks), ("topiary/expr.signs", laid_topiary_expr_signs), ("topiary/kinds.takes", laid_topiary_kinds_takes)] }
def KindsPartsSaid : Prop := kindsPartsRow.holds Tryz.pinned (OpenSpec.ofChange kindsPartsSpec)

/-- ITS FALSE NEIGHBOUR: 'it returns false'. Refute it at one input. -/
def kindsPartsWrong : ChangeSpec := { name := "kindsParts", fn := fun _ => fun
  | [d] => { results := [.lit (.bool false)], args := [d] }
  | _ => none }
def KindsPartsWrongFalsely : Prop := kindsPartsRow.holds Tryz.pinned (OpenSpec.ofChange kindsPartsWrong)

/-- 'topiarylaw09.KindsPlaces': WHATEVER THE INPUT: true; the input reads as it did. -/
def kindsPlacesSpec : ChangeSpec := { name := "kindsPlaces", fn := fun _ => fun
  | [d1, d2, d3] => { results := [.lit (.bool true)], args := [d1, d2, d3] }
  | _ => none }
def kindsPlacesRow : OpenClaim := { program := "ytidkbodmiegbkaagreatdoor", sum := "00e81eabe95063335d14d181c87ed07b9f0acb248592b17c8e6c08d0c3fe2d21", func := "topiary/topiarylaw09.KindsPlaces", spec := "kindsPlaces", inPlace := ["internal/abi.NoEscape"], unfollowed := true, recurses := true, named := ["topiary/lex.marks", "topiary/expr.signs", "internal/strconv.uint64pow10", "math/bits.deBruijn32tab", "math/bits.deBruijn64tab", "topiary/kinds.takes"], apart := false, laid := [("math/bits.deBruijn32tab", laid_math_bits_deBruijn32tab), ("math/bits.deBruijn64tab", laid_math_bits_deBruijn64tab), ("internal/strconv.uint64pow10", laid_internal_strconv_uint64pow10), ("topiary/lex.marks", laid_topiary_lex_marks), ("topiary/expr.signs", laid_topiary_expr_signs), ("topiary/kinds.takes", laid_topiary_kinds_takes)] }
def KindsPlacesSaid : Prop := kindsPlacesRow.holds Tryz.pinned (OpenSpec.ofChange kindsPlacesSpec)

/-- ITS FALSE NEIGHBOUR: 'it returns false'. Refute it at one input. -/
def kindsPlacesWrong : ChangeSpec := { name := "kindsPlaces", fn := fun _ => fun
  | [d1, d2, d3] => { results := [.lit (.bool false)], args := [d1, d2, d3] }
  | _ => none }
def KindsPlacesWrongFalsely : Prop := kindsPlacesRow.holds Tryz.pinned (OpenSpec.ofChange kindsPlacesWrong)

/- THE SECOND FORM. 'bulk': how many values and letters a reading holds, each counted each time it is reached (what is shared counts as often as it is met; a slice's spare places count too). A statement '..UptoSaid' is the law's where the arguments, and the package variables that the reading takes, are together of bulk at most 1048576: NARROWER than '..Said'. Prove '..Said' where nothing that the law and all that it calls make is longer than what came in: it says more and counts as full. Else prove '..UptoSaid'. A law counts once. -/
mutual
def uptoBulk {H : Type} : DataW H → Nat
  | .lit (.string bytes) => bytes.length + 1
  | .lit _ => 1
  | .nil => 1
  | .ptr d => uptoBulk d + 1
  | .slice elems spare => uptoBulkAll elems + uptoBulkAll spare + 1
  | .agg parts => uptoBulkAll parts + 1
  | .iface _ d => uptoBulk d + 1
  | .map entries => uptoBulkEntries entries + 1
  | .held _ => 1
def uptoBulkAll {H : Type} : List (DataW H) → Nat
  | [] => 0
  | d :: r => uptoBulk d + uptoBulkAll r
def uptoBulkEntries {H : Type} : List (Lit × DataW H) → Nat
  | [] => 0
  | x :: r => uptoBulkEntry x + uptoBulkEntries r
def uptoBulkEntry {H : Type} : Lit × DataW H → Nat
  | (.string bytes, d) => bytes.length + uptoBulk d + 1
  | (_, d) => uptoBulk d + 1
 end
def uptoSmall : (H : Type) → List (DataW H) → Bool := fun _ ds => decide (uptoBulkAll ds ≤ 1048576)
def OpenSpec.upto (s : _root_.Go.ChangeSpec) : _root_.Go.OpenSpec := { _root_.Go.OpenSpec.ofChange s with cond := some uptoSmall }

/-- 'topiarylaw09.KindsOne', WHERE WHAT IT READS IS OF BULK AT MOST 1048576: true; the input reads as it did. -/
def kindsOneUptoRow : OpenClaim := { program := "ytidkbodmiegbkaagreatdoor", sum := "00e81eabe95063335d14d181c87ed07b9f0acb248592b17c8e6c08d0c3fe2d21", func := "topiary/topiarylaw09.KindsOne", spec := "kindsOne", inPlace := ["internal/abi.NoEscape"], unfollowed := true, recurses := true, named := ["topiary/lex.marks", "topiary/expr.signs", "internal/strconv.uint64pow10", "math/bits.deBruijn32tab", "math/bits.deBruijn64tab", "topiary/kinds.takes"], apart := false, laid := [("math/bits.deBruijn32tab", laid_math_bits_deBruijn32tab), ("math/bits.deBruijn64tab", laid_math_bits_deBruijn64tab), ("internal/strconv.uint64pow10", laid_internal_strconv_uint64pow10), ("topiary/lex.marks", laid_topiary_lex_marks), ("topiary/expr.signs", laid_topiary_expr_signs), ("topiary/kinds.takes", laid_topiary_kinds_takes)], narrowed := true }
def KindsOneUptoSaid : Prop := kindsOneUptoRow.holds Tryz.pinned (OpenSpec.upto kindsOneSpec)

/-- 'topiarylaw09.KindsNames', WHERE WHAT IT READS IS OF BULK AT MOST 1048576: true; the input reads as it did. -/
def kindsNamesUptoRow : OpenClaim := { program := "ytidkbodmiegbkaagreatdoor", sum := "00e81eabe95063335d14d181c87ed07b9f0acb248592b17c8e6c08d0c3fe2d21", func := "topiary/topiarylaw09.KindsNames", spec := "kindsNames", inPlace := ["internal/abi.NoEscape"], unfollowed := true, recurses := true, named := ["topiary/lex.marks", "topiary/expr.signs", "internal/strconv.uint64pow10", "math/bits.deBruijn32tab", "math/bits.deBruijn64tab", "topiary/kinds.takes"], apart := false, laid := [("math/bits.deBruijn32tab", laid_math_bits_deBruijn32tab), ("math/bits.deBruijn64tab", laid_math_bits_deBruijn64tab), ("internal/strconv.uint64pow10", laid_internal_strconv_uint64pow10), ("topiary/lex.marks", laid_topiary_lex_marks), ("topiary/expr.signs", laid_topiary_expr_signs), ("topiary/kinds.takes", laid_topiary_kinds_takes)], narrowed := true }
def KindsNamesUptoSaid : Prop := kindsNamesUptoRow.holds Tryz.pinned (OpenSpec.upto kindsNamesSpec)

/-- 'topiarylaw09.KindsParts', WHERE WHAT IT READS IS OF BULK AT MOST 1048576: true; the input reads as it did. -/
def kindsPartsUptoRow : OpenClaim := { program := "ytidkbodmiegbkaagreatdoor", sum := "00e81eabe95063335d14d181c87ed07b9f0acb248592b17c8e6c08d0c3fe2d21", func := "topiary/topiarylaw09.KindsParts", spec := "kindsParts", inPlace := ["internal/abi.NoEscape"], unfollowed := true, recurses := true, named := ["topiary/lex.marks", "topiary/expr.signs", "internal/strconv.uint64pow10", "math/bits.deBruijn32tab", "math/bits.deBruijn64tab", "topiary/kinds.takes"], apart := false, laid := [("math/bits.deBruijn32tab", laid_math_bits_deBruijn32tab), ("math/bits.deBruijn64tab", laid_math_bits_deBruijn64tab), ("internal/strconv.uint64pow10", laid_internal_strconv_uint64pow10), ("topiary/lex.marks", laid_topiary_lex_marks), ("topiary/expr.signs", laid_topiary_expr_signs), ("topiary/kinds.takes", laid_topiary_kinds_takes)], narrowed := true }
def KindsPartsUptoSaid : Prop := kindsPartsUptoRow.holds Tryz.pinned (OpenSpec.upto kindsPartsSpec)

/-- 'topiarylaw09.KindsPlaces', WHERE WHAT IT READS IS OF BULK AT MOST 1048576: true; the input reads as it did. -/
def kindsPlacesUptoRow : OpenClaim := { program := "ytidkbodmiegbkaagreatdoor", sum := "00e81eabe95063335d14d181c87ed07b9f0acb248592b17c8e6c08d0c3fe2d21", func := "topiary/topiarylaw09.KindsPlaces", spec := "kindsPlaces", inPlace := ["internal/abi.NoEscape"], unfollowed := true, recurses := true, named := ["topiary/lex.marks", "topiary/expr.signs", "internal/strconv.uint64pow10", "math/bits.deBruijn32tab", "math/bits.deBruijn64tab", "topiary/kinds.takes"], apart := false, laid := [("math/bits.deBruijn32tab", laid_math_bits_deBruijn32tab), ("math/bits.deBruijn64tab", laid_math_bits_deBruijn64tab), ("internal/strconv.uint64pow10", laid_internal_strconv_uint64pow10), ("topiary/lex.marks", laid_topiary_lex_marks), ("topiary/expr.signs", laid_topiary_expr_signs), ("topiary/kinds.takes", laid_topiary_kinds_takes)], narrowed := true }
def KindsPlacesUptoSaid : Prop := kindsPlacesUptoRow.holds Tryz.pinned (OpenSpec.upto kindsPlacesSpec)

end Rows
end Go.Proofs.YtidkbodmiegbkaaGreatDoor
