/- Chapter 11: the words of the instructions, their lines, the text of code, in plain words. -/
import Derived.Test.YtdkoafmgenbkbaaDoorMPl
import Derived.Test.YtdkoafmgenbkbaaDoorMUnq
namespace Go.Proofs.YtdkoafmgenbkbaaDoor
set_option linter.unusedSimpArgs false
set_option linter.unusedVariables false
open Go.RowKit

def wordsC : List ByteArray := [⟨#[]⟩, ⟨#[115, 116, 101, 112]⟩, ⟨#[105, 110, 116]⟩, ⟨#[116, 101, 120, 116]⟩, ⟨#[116, 114, 117, 101]⟩, ⟨#[102, 97, 108, 115, 101]⟩, ⟨#[115, 101, 108, 102]⟩, ⟨#[110, 111, 110, 101]⟩, ⟨#[108, 111, 97, 100]⟩, ⟨#[102, 114, 101, 101]⟩, ⟨#[112, 114, 111, 112]⟩, ⟨#[107, 105, 100, 115]⟩, ⟨#[114, 101, 102]⟩, ⟨#[112, 97, 114, 101, 110, 116]⟩, ⟨#[105, 115]⟩, ⟨#[97, 108, 108]⟩, ⟨#[115, 105, 122, 101]⟩, ⟨#[102, 105, 114, 115, 116]⟩, ⟨#[115, 104, 111, 119]⟩, ⟨#[99, 111, 110, 99, 101, 112, 116]⟩, ⟨#[105, 100]⟩, ⟨#[114, 101, 97, 100]⟩, ⟨#[97, 100, 100]⟩, ⟨#[115, 117, 98]⟩, ⟨#[109, 117, 108]⟩, ⟨#[101, 113]⟩, ⟨#[110, 101]⟩, ⟨#[108, 116]⟩, ⟨#[108, 101]⟩, ⟨#[110, 111, 116]⟩, ⟨#[97, 110, 100]⟩, ⟨#[111, 114]⟩, ⟨#[116, 114, 117, 116, 104]⟩, ⟨#[117, 110, 108, 101, 115, 115]⟩, ⟨#[106, 117, 109, 112]⟩, ⟨#[97, 110, 121]⟩, ⟨#[101, 118, 101, 114, 121]⟩, ⟨#[111, 110, 108, 121]⟩, ⟨#[115, 117, 109]⟩, ⟨#[110, 101, 120, 116]⟩, ⟨#[116, 97, 107, 101]⟩]
/-- the word of an Op -/
def wordC (op : Int) : ByteArray := if 1 ≤ op ∧ op ≤ 40 then (wordsC[op.toNat]?).getD ⟨#[]⟩ else ⟨#[]⟩
/-- what an Op has, in the reference's words -/
def hasC (op : Int) : ByteArray := if op = 1 then ⟨#[99, 111, 117, 110, 116, 32, 49]⟩ else if op = 8 then ⟨#[99, 111, 117, 110, 116, 32, 48]⟩ else match hasN op with | 2 => ⟨#[110, 117, 109, 98, 101, 114]⟩ | 3 => ⟨#[116, 101, 120, 116]⟩ | 4 => ⟨#[110, 97, 109, 101]⟩ | 5 => ⟨#[112, 108, 97, 99, 101]⟩ | _ => ⟨#[]⟩
/-- an instruction's line -/
def lineC (x : Ins) : List Nat := bs (wordC x.op) ++ (match hasN x.op with | 1 => 32 :: showN x.arg | 5 => 32 :: showN x.arg | 2 => 32 :: showN x.int | 3 => 32 :: quoteN (bs x.text) | 4 => 32 :: bs x.text | _ => [])
def textC (c : List Ins) : List Nat := c.flatMap (fun x => lineC x ++ [10])
def printC (c : List Ins) : List Nat × Nat := if (rightC c).2 ≠ 0 then ([], (rightC c).2) else if 1048576 < (textC c).length then ([], 3) else (textC c, 0)
end Go.Proofs.YtdkoafmgenbkbaaDoor
