/-
  NARROWER THAN 'FOR EVERY INPUT', by the rows' own cells (each row's printed sentence says how): CodeBack: laid · CodeSteps: laid · CodeNames: laid · CodeUnlike: laid.
  DERIVED. THE GIVEN ROWS OF THIS SEAT. 4 by the template 'for every input the law returns true; each argument reads behind the call as it read before'; 0 by the template 'total and deterministic' (their statements: YtdkoafmgenbkbaaGreatDoorTotals.lean).
  GIVEN WITH THE SEED: the statements are not yours to turn. If you find one false, say at which input.
  Laid BY PROGRAM, IN A SANDBOX (cutbox-rows.mjs): the forced cells as the released guide's own fill.sh prints them over the translation 27a3d17ae3ecb64e… (all of the seat's roots in one cut). By AI agents, Wed Nov 11 2026. No macro, syntax, notation, axiom, sorry.
-/
import Derived.Test.YtdkoafmgenbkbaaGreatDoorChecked
import GoSem.Claim
import GoSem.ClaimJoined
import GoSem.ClaimMapViews
import Derived.JoinedTies
import Derived.KernelRfl
namespace Go.Proofs.YtdkoafmgenbkbaaGreatDoor
/- THE CELL 'sum', in the pinned program and in every row, IS THE sha256 OF THE DUMP (.gsa) THAT YtdkoafmgenbkbaaGreatDoorProg.lean LOADS. Nothing in Lean hashes anything: it is a label: what it is worth is what the hold of that sum in a sandbox is worth. -/
noncomputable def Tryz.pinned : Pinned := { name := "ytdkoafmgenbkbaagreatdoor", sum := "27a3d17ae3ecb64e7d89ee85e207640d9e17d8968d27b17111f9f79123126a33", checked := Tryz.checked }
namespace Rows
def none {H : Type} : Left H := { results := [], args := [] }

/- WHAT THE LISTED PACKAGE-LEVEL VARIABLES READ AS WHEN THE CALL BEGINS. Each datum BY PROGRAM (the guide's laid-datum.mjs) off the statement by which the dump's own 'gosem.cut.vars' lays the variable. In a bare row this is a premise. The card (YtdkoafmgenbkbaaGreatDoorCards.lean) ties it to the program's text. -/
def laid_math_bits_deBruijn32tab {H : Type} : DataW H := .agg [.lit (.int .u8 0), .lit (.int .u8 1), .lit (.int .u8 28), .lit (.int .u8 2), .lit (.int .u8 29), .lit (.int .u8 14), .lit (.int .u8 24), .lit (.int .u8 3), .lit (.int .u8 30), .lit (.int .u8 22), .lit (.int .u8 20), .lit (.int .u8 15), .lit (.int .u8 25), .lit (.int .u8 17), .lit (.int .u8 4), .lit (.int .u8 8), .lit (.int .u8 31), .lit (.int .u8 27), .lit (.int .u8 13), .lit (.int .u8 23), .lit (.int .u8 21), .lit (.int .u8 19), .lit (.int .u8 16), .lit (.int .u8 7), .lit (.int .u8 26), .lit (.int .u8 12), .lit (.int .u8 18), .lit (.int .u8 6), .lit (.int .u8 11), .lit (.int .u8 5), .lit (.int .u8 10), .lit (.int .u8 9)]
def laid_math_bits_deBruijn64tab {H : Type} : DataW H := .agg [.lit (.int .u8 0), .lit (.int .u8 1), .lit (.int .u8 56), .lit (.int .u8 2), .lit (.int .u8 57), .lit (.int .u8 49), .lit (.int .u8 28), .lit (.int .u8 3), .lit (.int .u8 61), .lit (.int .u8 58), .lit (.int .u8 42), .lit (.int .u8 50), .lit (.int .u8 38), .lit (.int .u8 29), .lit (.int .u8 17), .lit (.int .u8 4), .lit (.int .u8 62), .lit (.int .u8 47), .lit (.int .u8 59), .lit (.int .u8 36), .lit (.int .u8 45), .lit (.int .u8 43), .lit (.int .u8 51), .lit (.int .u8 22), .lit (.int .u8 53), .lit (.int .u8 39), .lit (.int .u8 33), .lit (.int .u8 30), .lit (.int .u8 24), .lit (.int .u8 18), .lit (.int .u8 12), .lit (.int .u8 5), .lit (.int .u8 63), .lit (.int .u8 55), .lit (.int .u8 48), .lit (.int .u8 27), .lit (.int .u8 60), .lit (.int .u8 41), .lit (.int .u8 37), .lit (.int .u8 16), .lit (.int .u8 46), .lit (.int .u8 35), .lit (.int .u8 44), .lit (.int .u8 21), .lit (.int .u8 52), .lit (.int .u8 32), .lit (.int .u8 23), .lit (.int .u8 11), .lit (.int .u8 54), .lit (.int .u8 26), .lit (.int .u8 40), .lit (.int .u8 15), .lit (.int .u8 34), .lit (.int .u8 20), .lit (.int .u8 31), .lit (.int .u8 10), .lit (.int .u8 25), .lit (.int .u8 14), .lit (.int .u8 19), .lit (.int .u8 9), .lit (.int .u8 13), .lit (.int .u8 8), .lit (.int .u8 7), .lit (.int .u8 6)]
def laid_internal_strconv_uint64pow10 {H : Type} : DataW H := .agg [.lit (.int .u64 1), .lit (.int .u64 10), .lit (.int .u64 100), .lit (.int .u64 1000), .lit (.int .u64 10000), .lit (.int .u64 100000), .lit (.int .u64 1000000), .lit (.int .u64 10000000), .lit (.int .u64 100000000), .lit (.int .u64 1000000000), .lit (.int .u64 10000000000), .lit (.int .u64 100000000000), .lit (.int .u64 1000000000000), .lit (.int .u64 10000000000000), .lit (.int .u64 100000000000000), .lit (.int .u64 1000000000000000), .lit (.int .u64 10000000000000000), .lit (.int .u64 100000000000000000), .lit (.int .u64 1000000000000000000), .lit (.int .u64 10000000000000000000)]
def laid_strconv_ErrRange {H : Type} : DataW H := .iface "*errors.errorString" (.ptr (.agg [.lit (.string [118, 97, 108, 117, 101, 32, 111, 117, 116, 32, 111, 102, 32, 114, 97, 110, 103, 101])]))
def laid_strconv_ErrSyntax {H : Type} : DataW H := .iface "*errors.errorString" (.ptr (.agg [.lit (.string [105, 110, 118, 97, 108, 105, 100, 32, 115, 121, 110, 116, 97, 120])]))
def laid_topiary_lex_marks {H : Type} : DataW H := .agg [.lit (.string [45, 62]), .lit (.string [33, 33]), .lit (.string [33, 61]), .lit (.string [61, 61]), .lit (.string [60, 61]), .lit (.string [46]), .lit (.string [35]), .lit (.string [94]), .lit (.string [63]), .lit (.string [40]), .lit (.string [41]), .lit (.string [43]), .lit (.string [45]), .lit (.string [42]), .lit (.string [60]), .lit (.string [58])]
def laid_topiary_expr_signs {H : Type} : DataW H := .agg [.agg [.lit (.string [111, 114]), .lit (.int .i64 28), .lit (.int .i64 1)], .agg [.lit (.string [97, 110, 100]), .lit (.int .i64 27), .lit (.int .i64 2)], .agg [.lit (.string [61, 61]), .lit (.int .i64 23), .lit (.int .i64 4)], .agg [.lit (.string [33, 61]), .lit (.int .i64 24), .lit (.int .i64 4)], .agg [.lit (.string [60]), .lit (.int .i64 25), .lit (.int .i64 4)], .agg [.lit (.string [60, 61]), .lit (.int .i64 26), .lit (.int .i64 4)], .agg [.lit (.string [43]), .lit (.int .i64 20), .lit (.int .i64 5)], .agg [.lit (.string [45]), .lit (.int .i64 21), .lit (.int .i64 5)], .agg [.lit (.string [42]), .lit (.int .i64 22), .lit (.int .i64 6)], .agg [.lit (.string [46]), .lit (.int .i64 8), .lit (.int .i64 7)], .agg [.lit (.string [35]), .lit (.int .i64 9), .lit (.int .i64 7)], .agg [.lit (.string [45, 62]), .lit (.int .i64 10), .lit (.int .i64 7)], .agg [.lit (.string [94]), .lit (.int .i64 11), .lit (.int .i64 7)], .agg [.lit (.string [63]), .lit (.int .i64 12), .lit (.int .i64 7)], .agg [.lit (.string [33, 33]), .lit (.int .i64 13), .lit (.int .i64 7)]]
def laid_topiary_code_words {H : Type} : DataW H := .agg [.lit (.string []), .lit (.string [115, 116, 101, 112]), .lit (.string [105, 110, 116]), .lit (.string [116, 101, 120, 116]), .lit (.string [116, 114, 117, 101]), .lit (.string [102, 97, 108, 115, 101]), .lit (.string [115, 101, 108, 102]), .lit (.string [110, 111, 110, 101]), .lit (.string [108, 111, 97, 100]), .lit (.string [102, 114, 101, 101]), .lit (.string [112, 114, 111, 112]), .lit (.string [107, 105, 100, 115]), .lit (.string [114, 101, 102]), .lit (.string [112, 97, 114, 101, 110, 116]), .lit (.string [105, 115]), .lit (.string [97, 108, 108]), .lit (.string [115, 105, 122, 101]), .lit (.string [102, 105, 114, 115, 116]), .lit (.string [115, 104, 111, 119]), .lit (.string [99, 111, 110, 99, 101, 112, 116]), .lit (.string [105, 100]), .lit (.string [114, 101, 97, 100]), .lit (.string [97, 100, 100]), .lit (.string [115, 117, 98]), .lit (.string [109, 117, 108]), .lit (.string [101, 113]), .lit (.string [110, 101]), .lit (.string [108, 116]), .lit (.string [108, 101]), .lit (.string [110, 111, 116]), .lit (.string [97, 110, 100]), .lit (.string [111, 114]), .lit (.string [116, 114, 117, 116, 104]), .lit (.string [117, 110, 108, 101, 115, 115]), .lit (.string [106, 117, 109, 112]), .lit (.string [97, 110, 121]), .lit (.string [101, 118, 101, 114, 121]), .lit (.string [111, 110, 108, 121]), .lit (.string [115, 117, 109]), .lit (.string [110, 101, 120, 116]), .lit (.string [116, 97, 107, 101])]

/-- 'topiarylaw11.CodeBack': WHATEVER THE INPUT: true; the input reads as it did. -/
def codeBackSpec : ChangeSpec := { name := "codeBack", fn := fun _ => fun
  | [d1, d2] => { results := [.lit (.bool true)], args := [d1, d2] }
  | _ => none }
def codeBackRow : OpenClaim := { program := "ytdkoafmgenbkbaagreatdoor", sum := "27a3d17ae3ecb64e7d89ee85e207640d9e17d8968d27b17111f9f79123126a33", func := "topiary/topiarylaw11.CodeBack", spec := "codeBack", inPlace := ["internal/abi.NoEscape", "internal/bytealg.IndexByteString", "internal/bytealg.IndexString"], unfollowed := true, recurses := true, named := ["topiary/lex.marks", "topiary/expr.signs", "internal/strconv.uint64pow10", "math/bits.deBruijn32tab", "math/bits.deBruijn64tab", "topiary/code.words", "internal/bytealg.MaxLen", "strconv.ErrSyntax", "strconv.ErrRange"], apart := false, laid := [("math/bits.deBruijn32tab", laid_math_bits_deBruijn32tab), ("math/bits.deBruijn64tab", laid_math_bits_deBruijn64tab), ("internal/strconv.uint64pow10", laid_internal_strconv_uint64pow10), ("strconv.ErrRange", laid_strconv_ErrRange), ("strconv.ErrSyntax", laid_strconv_ErrSyntax), ("topiary/lex.marks", laid_topiary_lex_marks), ("topiary/expr.signs", laid_topiary_expr_signs), ("topiary/code.words", laid_topiary_code_words)] }
def CodeBackSaid : Prop := codeBackRow.holds Tryz.pinned (OpenSpec.ofChange codeBackSpec)

/-- ITS FALSE NEIGHBOUR: 'it returns false'. Refute it at one input. -/
def codeBackWrong : ChangeSpec := { name := "codeBack", fn := fun _ => fun
  | [d1, d2] => { results := [.lit (.bool false)], args := [d1, d2] }
  | _ => none }
def CodeBackWrongFalsely : Prop := codeBackRow.holds Tryz.pinned (OpenSpec.ofChange codeBackWrong)

/-- 'topiarylaw11.CodeSteps': WHATEVER THE INPUT: true; the input reads as it did. -/
def codeStepsSpec : ChangeSpec := { name := "codeSteps", fn := fun _ => fun
  | [d] => { results := [.lit (.bool true)], args := [d] }
  | _ => none }
def codeStepsRow : OpenClaim := { program := "ytdkoafmgenbkbaagreatdoor", sum := "27a3d17ae3ecb64e7d89ee85e207640d9e17d8968d27b17111f9f79123126a33", func := "topiary/topiarylaw11.CodeSteps", spec := "codeSteps", inPlace := ["internal/abi.NoEscape", "internal/bytealg.IndexByteString", "internal/bytealg.IndexString"], unfollowed := true, recurses := true, named := ["topiary/lex.marks", "topiary/expr.signs", "internal/strconv.uint64pow10", "math/bits.deBruijn32tab", "math/bits.deBruijn64tab", "topiary/code.words", "internal/bytealg.MaxLen", "strconv.ErrSyntax", "strconv.ErrRange"], apart := false, laid := [("math/bits.deBruijn32tab", laid_math_bits_deBruijn32tab), ("math/bits.deBruijn64tab", laid_math_bits_deBruijn64tab), ("internal/strconv.uint64pow10", laid_internal_strconv_uint64pow10), ("strconv.ErrRange", laid_strconv_ErrRange), ("strconv.ErrSyntax", laid_strconv_ErrSyntax), ("topiary/lex.marks", laid_topiary_lex_marks), ("topiary/expr.signs", laid_topiary_expr_signs), ("topiary/code.words", laid_topiary_code_words)] }
def CodeStepsSaid : Prop := codeStepsRow.holds Tryz.pinned (OpenSpec.ofChange codeStepsSpec)

/-- ITS FALSE NEIGHBOUR: 'it returns false'. Refute it at one input. -/
def codeStepsWrong : ChangeSpec := { name := "codeSteps", fn := fun _ => fun
  | [d] => { results := [.lit (.bool false)], args := [d] }
  | _ => none }
def CodeStepsWrongFalsely : Prop := codeStepsRow.holds Tryz.pinned (OpenSpec.ofChange codeStepsWrong)

/-- 'topiarylaw11.CodeNames': WHATEVER THE INPUT: true; the input reads as it did. -/
def codeNamesSpec : ChangeSpec := { name := "codeNames", fn := fun _ => fun
  | [d1, d2, d3] => { results := [.lit (.bool true)], args := [d1, d2, d3] }
  | _ => none }
def codeNamesRow : OpenClaim := { program := "ytdkoafmgenbkbaagreatdoor", sum := "27a3d17ae3ecb64e7d89ee85e207640d9e17d8968d27b17111f9f79123126a33", func := "topiary/topiarylaw11.CodeNames", spec := "codeNames", inPlace := ["internal/abi.NoEscape", "internal/bytealg.IndexByteString", "internal/bytealg.IndexString"], unfollowed := true, recurses := true, named := ["topiary/lex.marks", "topiary/expr.signs", "internal/strconv.uint64pow10", "math/bits.deBruijn32tab", "math/bits.deBruijn64tab", "topiary/code.words", "internal/bytealg.MaxLen", "strconv.ErrSyntax", "strconv.ErrRange"], apart := false, laid := [("math/bits.deBruijn32tab", laid_math_bits_deBruijn32tab), ("math/bits.deBruijn64tab", laid_math_bits_deBruijn64tab), ("internal/strconv.uint64pow10", laid_internal_strconv_uint64pow10), ("strconv.ErrRange", laid_strconv_ErrRange), ("strconv.ErrSyntax", laid_strconv_ErrSyntax), ("topiary/lex.marks", laid_topiary_lex_marks), ("topiary/expr.signs", laid_topiary_expr_signs), ("topiary/code.words", laid_topiary_code_words)] }
def CodeNamesSaid : Prop := codeNamesRow.holds Tryz.pinned (OpenSpec.ofChange codeNamesSpec)

/-- ITS FALSE NEIGHBOUR: 'it returns false'. Refute it at one input. -/
def codeNamesWrong : ChangeSpec := { name := "codeNames", fn := fun _ => fun
  | [d1, d2, d3] => { results := [.lit (.bool false)], args := [d1, d2, d3] }
  | _ => none }
def CodeNamesWrongFalsely : Prop := codeNamesRow.holds Tryz.pinned (OpenSpec.ofChange codeNamesWrong)

/-- 'topiarylaw11.CodeUnlike': WHATEVER THE INPUT: true; the input reads as it did. -/
def codeUnlikeSpec : ChangeSpec := { name := "codeUnlike", fn := fun _ => fun
  | [d1, d2] => { results := [.lit (.bool true)], args := [d1, d2] }
  | _ => none }
def codeUnlikeRow : OpenClaim := { program := "ytdkoafmgenbkbaagreatdoor", sum := "27a3d17ae3ecb64e7d89ee85e207640d9e17d8968d27b17111f9f79123126a33", func := "topiary/topiarylaw11.CodeUnlike", spec := "codeUnlike", inPlace := ["internal/abi.NoEscape", "internal/bytealg.IndexByteString", "internal/bytealg.IndexString"], unfollowed := true, recurses := true, named := ["topiary/lex.marks", "topiary/expr.signs", "internal/strconv.uint64pow10", "math/bits.deBruijn32tab", "math/bits.deBruijn64tab", "topiary/code.words", "internal/bytealg.MaxLen", "strconv.ErrSyntax", "strconv.ErrRange"], apart := false, laid := [("math/bits.deBruijn32tab", laid_math_bits_deBruijn32tab), ("math/bits.deBruijn64tab", laid_math_bits_deBruijn64tab), ("internal/strconv.uint64pow10", laid_internal_strconv_uint64pow10), ("strconv.ErrRange", laid_strconv_ErrRange), ("strconv.ErrSyntax", laid_strconv_ErrSyntax), ("topiary/lex.marks", laid_topiary_lex_marks), ("topiary/expr.signs", laid_topiary_expr_signs), ("topiary/code.words", laid_topiary_code_words)] }
def CodeUnlikeSaid : Prop := codeUnlikeRow.holds Tryz.pinned (OpenSpec.ofChange codeUnlikeSpec)

/-- ITS FALSE NEIGHBOUR: 'it returns false'. Refute it at one input. -/
def codeUnlikeWrong : ChangeSpec := { name := "codeUnlike", fn := fun _ => fun
  | [d1, d2] => { results := [.lit (.bool false)], args := [d1, d2] }
  | _ => none }
def CodeUnlikeWrongFalsely : Prop := codeUnlikeRow.holds Tryz.pinned (OpenSpec.ofChange codeUnlikeWrong)

/- THE SECOND FORM. 'bulk': how many values and letters a reading holds, each counted each time it is reached (what is shared counts as often as it is met; a slice's spare places count too). A statement '..UptoSaid' is the law's where the arguments, and the package variables that the reading takes, are together of bulk at most 1048576: NARROWER than '..Said'. Prove '..Said' where nothing that the law and all that it calls make is longer than what came in: it says more and counts as full. Else prove '..UptoSaid'. A law counts once. -/
mutual
def uptoBulk {H : Type} : DataW H → Nat
  | .lit (.string bytes) => bytes.length + 1
  | .lit _ => 1
  | .nil => 1
  | .ptr d => uptoBulk d + 1
  | .slice elems spare => uptoBulkAll elems + uptoBulkAll spare + 1
  | .agg parts => uptoBulkAll parts + 1
  | .iface _ d => uptoBulk d + 1
  | .map entries => uptoBulkEntries entries + 1
  | .held _ => 1
def uptoBulkAll {H : Type} : List (DataW H) → Nat
  | [] => 0
  | d :: r => uptoBulk d + uptoBulkAll r
def uptoBulkEntries {H : Type} : List (Lit × DataW H) → Nat
  | [] => 0
  | x :: r => uptoBulkEntry x + uptoBulkEntries r
def uptoBulkEntry {H : Type} : Lit × DataW H → Nat
  | (.string bytes, d) => bytes.length + uptoBulk d + 1
  | (_, d) => uptoBulk d + 1
 end
def uptoSmall : (H : Type) → List (DataW H) → Bool := fun _ ds => decide (uptoBulkAll ds ≤ 1048576)
def OpenSpec.upto (s : _root_.Go.ChangeSpec) : _root_.Go.OpenSpec := { _root_.Go.OpenSpec.ofChange s with cond := some uptoSmall }

/-- 'topiarylaw11.CodeBack', WHERE WHAT IT READS IS OF BULK AT MOST 1048576: true; the input reads as it did. -/
def codeBackUptoRow : OpenClaim := { program := "ytdkoafmgenbkbaagreatdoor", sum := "27a3d17ae3ecb64e7d89ee85e207640d9e17d8968d27b17111f9f79123126a33", func := "topiary/topiarylaw11.CodeBack", spec := "codeBack", inPlace := ["internal/abi.NoEscape", "internal/bytealg.IndexByteString", "internal/bytealg.IndexString"], unfollowed := true, recurses := true, named := ["topiary/lex.marks", "topiary/expr.signs", "internal/strconv.uint64pow10", "math/bits.deBruijn32tab", "math/bits.deBruijn64tab", "topiary/code.words", "internal/bytealg.MaxLen", "strconv.ErrSyntax", "strconv.ErrRange"], apart := false, laid := [("math/bits.deBruijn32tab", laid_math_bits_deBruijn32tab), ("math/bits.deBruijn64tab", laid_math_bits_deBruijn64tab), ("internal/strconv.uint64pow10", laid_internal_strconv_uint64pow10), ("strconv.ErrRange", laid_strconv_ErrRange), ("strconv.ErrSyntax", laid_strconv_ErrSyntax), ("topiary/lex.marks", laid_topiary_lex_marks), ("topiary/expr.signs", laid_topiary_expr_signs), ("topiary/code.words", laid_topiary_code_words)], narrowed := true }
def CodeBackUptoSaid : Prop := codeBackUptoRow.holds Tryz.pinned (OpenSpec.upto codeBackSpec)

/-- 'topiarylaw11.CodeSteps', WHERE WHAT IT READS IS OF BULK AT MOST 1048576: true; the input reads as it did. -/
def codeStepsUptoRow : OpenClaim := { program := "ytdkoafmgenbkbaagreatdoor", sum := "27a3d17ae3ecb64e7d89ee85e207640d9e17d8968d27b17111f9f79123126a33", func := "topiary/topiarylaw11.CodeSteps", spec := "codeSteps", inPlace := ["internal/abi.NoEscape", "internal/bytealg.IndexByteString", "internal/bytealg.IndexString"], unfollowed := true, recurses := true, named := ["topiary/lex.marks", "topiary/expr.signs", "internal/strconv.uint64pow10", "math/bits.deBruijn32tab", "math/bits.deBruijn64tab", "topiary/code.words", "internal/bytealg.MaxLen", "strconv.ErrSyntax", "strconv.ErrRange"], apart := false, laid := [("math/bits.deBruijn32tab", laid_math_bits_deBruijn32tab), ("math/bits.deBruijn64tab", laid_math_bits_deBruijn64tab), ("internal/strconv.uint64pow10", laid_internal_strconv_uint64pow10), ("strconv.ErrRange", laid_strconv_ErrRange), ("strconv.ErrSyntax", laid_strconv_ErrSyntax), ("topiary/lex.marks", laid_topiary_lex_marks), ("topiary/expr.signs", laid_topiary_expr_signs), ("topiary/code.words", laid_topiary_code_words)], narrowed := true }
def CodeStepsUptoSaid : Prop := codeStepsUptoRow.holds Tryz.pinned (OpenSpec.upto codeStepsSpec)

/-- 'topiarylaw11.CodeNames', WHERE WHAT IT READS IS OF BULK AT MOST 1048576: true; the input reads as it did. -/
def codeNamesUptoRow : OpenClaim := { program := "ytdkoafmgenbkbaagreatdoor", sum := "27a3d17ae3ecb64e7d89ee85e207640d9e17d8968d27b17111f9f79123126a33", func := "topiary/topiarylaw11.CodeNames", spec := "codeNames", inPlace := ["internal/abi.NoEscape", "internal/bytealg.IndexByteString", "internal/bytealg.IndexString"], unfollowed := true, recurses := true, named := ["topiary/lex.marks", "topiary/expr.signs", "internal/strconv.uint64pow10", "math/bits.deBruijn32tab", "math/bits.deBruijn64tab", "topiary/code.words", "internal/bytealg.MaxLen", "strconv.ErrSyntax", "strconv.ErrRange"], apart := false, laid := [("math/bits.deBruijn32tab", laid_math_bits_deBruijn32tab), ("math/bits.deBruijn64tab", laid_math_bits_deBruijn64tab), ("internal/strconv.uint64pow10", laid_internal_strconv_uint64pow10), ("strconv.ErrRange", laid_strconv_ErrRange), ("strconv.ErrSyntax", laid_strconv_ErrSyntax), ("topiary/lex.marks", laid_topiary_lex_marks), ("topiary/expr.signs", laid_topiary_expr_signs), ("topiary/code.words", laid_topiary_code_words)], narrowed := true }
def CodeNamesUptoSaid : Prop := codeNamesUptoRow.holds Tryz.pinned (OpenSpec.upto codeNamesSpec)

/-- 'topiarylaw11.CodeUnlike', WHERE WHAT IT READS IS OF BULK AT MOST 1048576: true; the input reads as it did. -/
def codeUnlikeUptoRow : OpenClaim := { program := "ytdkoafmgenbkbaagreatdoor", sum := "27a3d17ae3ecb64e7d89ee85e207640d9e17d8968d27b17111f9f79123126a33", func := "topiary/topiarylaw11.CodeUnlike", spec := "codeUnlike", inPlace := ["internal/abi.NoEscape", "internal/bytealg.IndexByteString", "internal/bytealg.IndexString"], unfollowed := true, recurses := true, named := ["topiary/lex.marks", "topiary/expr.signs", "internal/strconv.uint64pow10", "math/bits.deBruijn32tab", "math/bits.deBruijn64tab", "topiary/code.words", "internal/bytealg.MaxLen", "strconv.ErrSyntax", "strconv.ErrRange"], apart := false, laid := [("math/bits.deBruijn32tab", laid_math_bits_deBruijn32tab), ("math/bits.deBruijn64tab", laid_math_bits_deBruijn64tab), ("internal/strconv.uint64pow10", laid_internal_strconv_uint64pow10), ("strconv.ErrRange", laid_strconv_ErrRange), ("strconv.ErrSyntax", laid_strconv_ErrSyntax), ("topiary/lex.marks", laid_topiary_lex_marks), ("topiary/expr.signs", laid_topiary_expr_signs), ("topiary/code.words", laid_topiary_code_words)], narrowed := true }
def CodeUnlikeUptoSaid : Prop := codeUnlikeUptoRow.holds Tryz.pinned (OpenSpec.upto codeUnlikeSpec)

end Rows
end Go.Proofs.YtdkoafmgenbkbaaGreatDoor
