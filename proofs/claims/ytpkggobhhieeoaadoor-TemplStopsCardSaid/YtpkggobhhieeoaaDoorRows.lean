/-
  NARROWER THAN 'FOR EVERY INPUT', by the rows' own cells (each row's printed sentence says how): TemplReads: laid · TemplBack: laid · TemplJoins: laid · TemplStops: laid.
  DERIVED. THE GIVEN ROWS OF THIS SEAT. 4 by the template 'for every input the law returns true; each argument reads behind the call as it read before'; 0 by the template 'total and deterministic' (their statements: YtpkggobhhieeoaaDoorTotals.lean).
  GIVEN WITH THE SEED: the statements are not yours to turn. If you find one false, say at which input.
  Laid BY PROGRAM, IN A SANDBOX (cutbox-rows.mjs): the forced cells as the released guide's own fill.sh prints them over the translation a4a5de9ed2d11bfc… (all of the seat's roots in one cut). By AI agents, Wed Nov 11 2026. No macro, syntax, notation, axiom, sorry.
-/
import Derived.Test.YtpkggobhhieeoaaDoorChecked
import GoSem.PinnedTables
import GoSem.Claim
import GoSem.ClaimJoined
import GoSem.ClaimMapViews
import Derived.JoinedTies
import Derived.KernelRfl
namespace Go.Proofs.YtpkggobhhieeoaaDoor
/- THE CELL 'sum', in the pinned program and in every row, IS THE sha256 OF THE DUMP (.gsa) THAT YtpkggobhhieeoaaDoorProg.lean LOADS. Nothing in Lean hashes anything: it is a label: what it is worth is what the hold of that sum in a sandbox is worth. -/
noncomputable def Tryd.pinned : Pinned := { name := "ytpkggobhhieeoaadoor", sum := "a4a5de9ed2d11bfc99c6e27048e26aa7f1721d6350dd3c70d6f9add8b4cac3a3", checked := Tryd.checked }
namespace Rows
def none {H : Type} : Left H := { results := [], args := [] }

/- WHAT THE LISTED PACKAGE-LEVEL VARIABLES READ AS WHEN THE CALL BEGINS. Each datum BY PROGRAM (the guide's laid-datum.mjs) off the statement by which the dump's own 'gosem.cut.vars' lays the variable. In a bare row this is a premise. The card (YtpkggobhhieeoaaDoorCards.lean) ties it to the program's text. -/
def laid_topiary_lex_marks {H : Type} : DataW H := .agg [.lit (.string [45, 62]), .lit (.string [33, 33]), .lit (.string [33, 61]), .lit (.string [61, 61]), .lit (.string [60, 61]), .lit (.string [46]), .lit (.string [35]), .lit (.string [94]), .lit (.string [63]), .lit (.string [40]), .lit (.string [41]), .lit (.string [43]), .lit (.string [45]), .lit (.string [42]), .lit (.string [60]), .lit (.string [58])]
def laid_topiary_expr_signs {H : Type} : DataW H := .agg [.agg [.lit (.string [111, 114]), .lit (.int .i64 28), .lit (.int .i64 1)], .agg [.lit (.string [97, 110, 100]), .lit (.int .i64 27), .lit (.int .i64 2)], .agg [.lit (.string [61, 61]), .lit (.int .i64 23), .lit (.int .i64 4)], .agg [.lit (.string [33, 61]), .lit (.int .i64 24), .lit (.int .i64 4)], .agg [.lit (.string [60]), .lit (.int .i64 25), .lit (.int .i64 4)], .agg [.lit (.string [60, 61]), .lit (.int .i64 26), .lit (.int .i64 4)], .agg [.lit (.string [43]), .lit (.int .i64 20), .lit (.int .i64 5)], .agg [.lit (.string [45]), .lit (.int .i64 21), .lit (.int .i64 5)], .agg [.lit (.string [42]), .lit (.int .i64 22), .lit (.int .i64 6)], .agg [.lit (.string [46]), .lit (.int .i64 8), .lit (.int .i64 7)], .agg [.lit (.string [35]), .lit (.int .i64 9), .lit (.int .i64 7)], .agg [.lit (.string [45, 62]), .lit (.int .i64 10), .lit (.int .i64 7)], .agg [.lit (.string [94]), .lit (.int .i64 11), .lit (.int .i64 7)], .agg [.lit (.string [63]), .lit (.int .i64 12), .lit (.int .i64 7)], .agg [.lit (.string [33, 33]), .lit (.int .i64 13), .lit (.int .i64 7)]]
def laid_unicode_utf8_acceptRanges {H : Type} : DataW H := .agg [.agg [.lit (.int .u8 128), .lit (.int .u8 191)], .agg [.lit (.int .u8 160), .lit (.int .u8 191)], .agg [.lit (.int .u8 128), .lit (.int .u8 159)], .agg [.lit (.int .u8 144), .lit (.int .u8 191)], .agg [.lit (.int .u8 128), .lit (.int .u8 143)], .agg [.lit (.int .u8 0), .lit (.int .u8 0)], .agg [.lit (.int .u8 0), .lit (.int .u8 0)], .agg [.lit (.int .u8 0), .lit (.int .u8 0)], .agg [.lit (.int .u8 0), .lit (.int .u8 0)], .agg [.lit (.int .u8 0), .lit (.int .u8 0)], .agg [.lit (.int .u8 0), .lit (.int .u8 0)], .agg [.lit (.int .u8 0), .lit (.int .u8 0)], .agg [.lit (.int .u8 0), .lit (.int .u8 0)], .agg [.lit (.int .u8 0), .lit (.int .u8 0)], .agg [.lit (.int .u8 0), .lit (.int .u8 0)], .agg [.lit (.int .u8 0), .lit (.int .u8 0)]]
/-- One of Go's own tables, pinned by name: the form's constant. -/
def laid_unicode_utf8_first : DataW Unit := Go.Pinned.utf8First

/-- 'topiarylaw20.TemplReads': WHATEVER THE INPUT: true; the input reads as it did. -/
def templReadsSpec : ChangeSpec := { name := "templReads", fn := fun _ => fun
  | [d] => { results := [.lit (.bool true)], args := [d] }
  | _ => none }
def templReadsRow : OpenClaim := { program := "ytpkggobhhieeoaadoor", sum := "a4a5de9ed2d11bfc99c6e27048e26aa7f1721d6350dd3c70d6f9add8b4cac3a3", func := "topiary/topiarylaw20.TemplReads", spec := "templReads", unfollowed := true, recurses := true, named := ["topiary/lex.marks", "topiary/expr.signs"], apart := false, laid := [("topiary/lex.marks", laid_topiary_lex_marks), ("topiary/expr.signs", laid_topiary_expr_signs)] }
def TemplReadsSaid : Prop := templReadsRow.holds Tryd.pinned (OpenSpec.ofChange templReadsSpec)

/-- ITS FALSE NEIGHBOUR: 'it returns false'. Refute it at one input. -/
def templReadsWrong : ChangeSpec := { name := "templReads", fn := fun _ => fun
  | [d] => { results := [.lit (.bool false)], args := [d] }
  | _ => none }
def TemplReadsWrongFalsely : Prop := templReadsRow.holds Tryd.pinned (OpenSpec.ofChange templReadsWrong)

/-- 'topiarylaw20.TemplBack': WHATEVER THE INPUT: true; the input reads as it did. -/
def templBackSpec : ChangeSpec := { name := "templBack", fn := fun _ => fun
  | [d1, d2] => { results := [.lit (.bool true)], args := [d1, d2] }
  | _ => none }
def templBackRow : OpenClaim := { program := "ytpkggobhhieeoaadoor", sum := "a4a5de9ed2d11bfc99c6e27048e26aa7f1721d6350dd3c70d6f9add8b4cac3a3", func := "topiary/topiarylaw20.TemplBack", spec := "templBack", inPlace := ["internal/bytealg.CountString", "internal/bytealg.IndexByteString", "internal/bytealg.IndexString", "internal/abi.NoEscape", "internal/bytealg.MakeNoZero"], unfollowed := true, recurses := true, named := ["topiary/lex.marks", "topiary/expr.signs", "internal/bytealg.MaxLen", "unicode/utf8.first", "unicode/utf8.acceptRanges"], apart := false, laid := [("unicode/utf8.acceptRanges", laid_unicode_utf8_acceptRanges), ("topiary/lex.marks", laid_topiary_lex_marks), ("topiary/expr.signs", laid_topiary_expr_signs), ("unicode/utf8.first", laid_unicode_utf8_first)] }
def TemplBackSaid : Prop := templBackRow.holds Tryd.pinned (OpenSpec.ofChange templBackSpec)

/-- ITS FALSE NEIGHBOUR: 'it returns false'. Refute it at one input. -/
def templBackWrong : ChangeSpec := { name := "templBack", fn := fun _ => fun
  | [d1, d2] => { results := [.lit (.bool false)], args := [d1, d2] }
  | _ => none }
def TemplBackWrongFalsely : Prop := templBackRow.holds Tryd.pinned (OpenSpec.ofChange templBackWrong)

/-- 'topiarylaw20.TemplJoins': WHATEVER THE INPUT: true; the input reads as it did. -/
def templJoinsSpec : ChangeSpec := { name := "templJoins", fn := fun _ => fun
  | [d1, d2] => { results := [.lit (.bool true)], args := [d1, d2] }
  | _ => none }
def templJoinsRow : OpenClaim := { program := "ytpkggobhhieeoaadoor", sum := "a4a5de9ed2d11bfc99c6e27048e26aa7f1721d6350dd3c70d6f9add8b4cac3a3", func := "topiary/topiarylaw20.TemplJoins", spec := "templJoins", inPlace := ["internal/bytealg.CountString", "internal/bytealg.IndexByteString", "internal/bytealg.IndexString", "internal/abi.NoEscape", "internal/bytealg.MakeNoZero"], unfollowed := true, recurses := true, named := ["topiary/lex.marks", "topiary/expr.signs", "internal/bytealg.MaxLen", "unicode/utf8.first", "unicode/utf8.acceptRanges"], apart := false, laid := [("unicode/utf8.acceptRanges", laid_unicode_utf8_acceptRanges), ("topiary/lex.marks", laid_topiary_lex_marks), ("topiary/expr.signs", laid_topiary_expr_signs), ("unicode/utf8.first", laid_unicode_utf8_first)] }
def TemplJoinsSaid : Prop := templJoinsRow.holds Tryd.pinned (OpenSpec.ofChange templJoinsSpec)

/-- ITS FALSE NEIGHBOUR: 'it returns false'. Refute it at one input. -/
def templJoinsWrong : ChangeSpec := { name := "templJoins", fn := fun _ => fun
  | [d1, d2] => { results := [.lit (.bool false)], args := [d1, d2] }
  | _ => none }
def TemplJoinsWrongFalsely : Prop := templJoinsRow.holds Tryd.pinned (OpenSpec.ofChange templJoinsWrong)

/-- 'topiarylaw20.TemplStops': WHATEVER THE INPUT: true; the input reads as it did. -/
def templStopsSpec : ChangeSpec := { name := "templStops", fn := fun _ => fun
  | [d] => { results := [.lit (.bool true)], args := [d] }
  | _ => none }
def templStopsRow : OpenClaim := { program := "ytpkggobhhieeoaadoor", sum := "a4a5de9ed2d11bfc99c6e27048e26aa7f1721d6350dd3c70d6f9add8b4cac3a3", func := "topiary/topiarylaw20.TemplStops", spec := "templStops", inPlace := ["internal/bytealg.CountString", "internal/bytealg.IndexByteString", "internal/bytealg.IndexString", "internal/abi.NoEscape", "internal/bytealg.MakeNoZero"], unfollowed := true, recurses := true, named := ["topiary/lex.marks", "topiary/expr.signs", "internal/bytealg.MaxLen", "unicode/utf8.first", "unicode/utf8.acceptRanges"], apart := false, laid := [("unicode/utf8.acceptRanges", laid_unicode_utf8_acceptRanges), ("topiary/lex.marks", laid_topiary_lex_marks), ("topiary/expr.signs", laid_topiary_expr_signs), ("unicode/utf8.first", laid_unicode_utf8_first)] }
def TemplStopsSaid : Prop := templStopsRow.holds Tryd.pinned (OpenSpec.ofChange templStopsSpec)

/-- ITS FALSE NEIGHBOUR: 'it returns false'. Refute it at one input. -/
def templStopsWrong : ChangeSpec := { name := "templStops", fn := fun _ => fun
  | [d] => { results := [.lit (.bool false)], args := [d] }
  | _ => none }
def TemplStopsWrongFalsely : Prop := templStopsRow.holds Tryd.pinned (OpenSpec.ofChange templStopsWrong)

/- THE SECOND FORM. 'bulk': how many values and letters a reading holds, each counted each time it is reached (what is shared counts as often as it is met; a slice's spare places count too). A statement '..UptoSaid' is the law's where the arguments, and the package variables that the reading takes, are together of bulk at most 1048576: NARROWER than '..Said'. Prove '..Said' where nothing that the law and all that it calls make is longer than what came in: it says more and counts as full. Else prove '..UptoSaid'. A law counts once. -/
mutual
def uptoBulk {H : Type} : DataW H → Nat
  | .lit (.string bytes) => bytes.length + 1
  | .lit _ => 1
  | .nil => 1
  | .ptr d => uptoBulk d + 1
  | .slice elems spare => uptoBulkAll elems + uptoBulkAll spare + 1
  | .agg parts => uptoBulkAll parts + 1
  | .iface _ d => uptoBulk d + 1
  | .map entries => uptoBulkEntries entries + 1
  | .held _ => 1
def uptoBulkAll {H : Type} : List (DataW H) → Nat
  | [] => 0
  | d :: r => uptoBulk d + uptoBulkAll r
def uptoBulkEntries {H : Type} : List (Lit × DataW H) → Nat
  | [] => 0
  | x :: r => uptoBulkEntry x + uptoBulkEntries r
def uptoBulkEntry {H : Type} : Lit × DataW H → Nat
  | (.string bytes, d) => bytes.length + uptoBulk d + 1
  | (_, d) => uptoBulk d + 1
 end
def uptoSmall : (H : Type) → List (DataW H) → Bool := fun _ ds => decide (uptoBulkAll ds ≤ 1048576)
def OpenSpec.upto (s : _root_.Go.ChangeSpec) : _root_.Go.OpenSpec := { _root_.Go.OpenSpec.ofChange s with cond := some uptoSmall }

/-- 'topiarylaw20.TemplReads', WHERE WHAT IT READS IS OF BULK AT MOST 1048576: true; the input reads as it did. -/
def templReadsUptoRow : OpenClaim := { program := "ytpkggobhhieeoaadoor", sum := "a4a5de9ed2d11bfc99c6e27048e26aa7f1721d6350dd3c70d6f9add8b4cac3a3", func := "topiary/topiarylaw20.TemplReads", spec := "templReads", unfollowed := true, recurses := true, named := ["topiary/lex.marks", "topiary/expr.signs"], apart := false, laid := [("topiary/lex.marks", laid_topiary_lex_marks), ("topiary/expr.signs", laid_topiary_expr_signs)], narrowed := true }
def TemplReadsUptoSaid : Prop := templReadsUptoRow.holds Tryd.pinned (OpenSpec.upto templReadsSpec)

/-- 'topiarylaw20.TemplBack', WHERE WHAT IT READS IS OF BULK AT MOST 1048576: true; the input reads as it did. -/
def templBackUptoRow : OpenClaim := { program := "ytpkggobhhieeoaadoor", sum := "a4a5de9ed2d11bfc99c6e27048e26aa7f1721d6350dd3c70d6f9add8b4cac3a3", func := "topiary/topiarylaw20.TemplBack", spec := "templBack", inPlace := ["internal/bytealg.CountString", "internal/bytealg.IndexByteString", "internal/bytealg.IndexString", "internal/abi.NoEscape", "internal/bytealg.MakeNoZero"], unfollowed := true, recurses := true, named := ["topiary/lex.marks", "topiary/expr.signs", "internal/bytealg.MaxLen", "unicode/utf8.first", "unicode/utf8.acceptRanges"], apart := false, laid := [("unicode/utf8.acceptRanges", laid_unicode_utf8_acceptRanges), ("topiary/lex.marks", laid_topiary_lex_marks), ("topiary/expr.signs", laid_topiary_expr_signs), ("unicode/utf8.first", laid_unicode_utf8_first)], narrowed := true }
def TemplBackUptoSaid : Prop := templBackUptoRow.holds Tryd.pinned (OpenSpec.upto templBackSpec)

/-- 'topiarylaw20.TemplJoins', WHERE WHAT IT READS IS OF BULK AT MOST 1048576: true; the input reads as it did. -/
def templJoinsUptoRow : OpenClaim := { program := "ytpkggobhhieeoaadoor", sum := "a4a5de9ed2d11bfc99c6e27048e26aa7f1721d6350dd3c70d6f9add8b4cac3a3", func := "topiary/topiarylaw20.TemplJoins", spec := "templJoins", inPlace := ["internal/bytealg.CountString", "internal/bytealg.IndexByteString", "internal/bytealg.IndexString", "internal/abi.NoEscape", "internal/bytealg.MakeNoZero"], unfollowed := true, recurses := true, named := ["topiary/lex.marks", "topiary/expr.signs", "internal/bytealg.MaxLen", "unicode/utf8.first", "unicode/utf8.acceptRanges"], apart := false, laid := [("unicode/utf8.acceptRanges", laid_unicode_utf8_acceptRanges), ("topiary/lex.marks", laid_topiary_lex_marks), ("topiary/expr.signs", laid_topiary_expr_signs), ("unicode/utf8.first", laid_unicode_utf8_first)], narrowed := true }
def TemplJoinsUptoSaid : Prop := templJoinsUptoRow.holds Tryd.pinned (OpenSpec.upto templJoinsSpec)

/-- 'topiarylaw20.TemplStops', WHERE WHAT IT READS IS OF BULK AT MOST 1048576: true; the input reads as it did. -/
def templStopsUptoRow : OpenClaim := { program := "ytpkggobhhieeoaadoor", sum := "a4a5de9ed2d11bfc99c6e27048e26aa7f1721d6350dd3c70d6f9add8b4cac3a3", func := "topiary/topiarylaw20.TemplStops", spec := "templStops", inPlace := ["internal/bytealg.CountString", "internal/bytealg.IndexByteString", "internal/bytealg.IndexString", "internal/abi.NoEscape", "internal/bytealg.MakeNoZero"], unfollowed := true, recurses := true, named := ["topiary/lex.marks", "topiary/expr.signs", "internal/bytealg.MaxLen", "unicode/utf8.first", "unicode/utf8.acceptRanges"], apart := false, laid := [("unicode/utf8.acceptRanges", laid_unicode_utf8_acceptRanges), ("topiary/lex.marks", laid_topiary_lex_marks), ("topiary/expr.signs", laid_topiary_expr_signs), ("unicode/utf8.first", laid_unicode_utf8_first)], narrowed := true }
def TemplStopsUptoSaid : Prop := templStopsUptoRow.holds Tryd.pinned (OpenSpec.upto templStopsSpec)

end Rows
end Go.Proofs.YtpkggobhhieeoaaDoor
