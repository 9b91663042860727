/-
  No cell of these rows narrows 'for every input' (looked for: loops, veiled, ifaces, maps, wideKeys, modest, calm, conditions, laid).
  DERIVED. THE GIVEN ROWS OF THIS SEAT. 6 by the template 'for every input the law returns true; each argument reads behind the call as it read before'; 0 by the template 'total and deterministic' (their statements: YtdblkhijcijgbaaTotals.lean).
  GIVEN WITH THE SEED: the statements are not yours to turn. If you find one false, say at which input.
  Laid BY PROGRAM, IN A SANDBOX (cutbox-rows.mjs): the forced cells as the released guide's own fill.sh prints them over the translation 83d6a659c7784177… (all of the seat's roots in one cut). By AI agents, Wed Nov 11 2026. No macro, syntax, notation, axiom, sorry.
-/
import Derived.Test.YtdblkhijcijgbaaChecked
import GoSem.Claim
import GoSem.ClaimJoined
import GoSem.ClaimMapViews
import Derived.JoinedTies
import Derived.KernelRfl
namespace Go.Proofs.Ytdblkhijcijgbaa
/- THE CELL 'sum', in the pinned program and in every row, IS THE sha256 OF THE DUMP (.gsa) THAT YtdblkhijcijgbaaProg.lean LOADS. Nothing in Lean hashes anything: it is a label: what it is worth is what the hold of that sum in a sandbox is worth. -/
noncomputable def Try.pinned : Pinned := { name := "ytdblkhijcijgbaa", sum := "83d6a659c7784177b869831bf7523e9e40b13b15f5d50588bb803b0f19f79bb8", checked := Try.checked }
namespace Rows
def none {H : Type} : Left H := { results := [], args := [] }

/-- 'variorumlaw22.LettersTexts': WHATEVER THE INPUT: true; the input reads as it did. -/
def lettersTextsSpec : ChangeSpec := { name := "lettersTexts", fn := fun _ => fun
  | [d] => { results := [.lit (.bool true)], args := [d] }
  | _ => none }
def lettersTextsRow : OpenClaim := { program := "ytdblkhijcijgbaa", sum := "83d6a659c7784177b869831bf7523e9e40b13b15f5d50588bb803b0f19f79bb8", func := "variorum/variorumlaw22.LettersTexts", spec := "lettersTexts", unfollowed := true, recurses := true, apart := false }
def LettersTextsSaid : Prop := lettersTextsRow.holds Try.pinned (OpenSpec.ofChange lettersTextsSpec)

/-- ITS FALSE NEIGHBOUR: 'it returns false'. Refute it at one input. -/
def lettersTextsWrong : ChangeSpec := { name := "lettersTexts", fn := fun _ => fun
  | [d] => { results := [.lit (.bool false)], args := [d] }
  | _ => none }
def LettersTextsWrongFalsely : Prop := lettersTextsRow.holds Try.pinned (OpenSpec.ofChange lettersTextsWrong)

/-- 'variorumlaw22.LettersBytes': WHATEVER THE INPUT: true; the input reads as it did. -/
def lettersBytesSpec : ChangeSpec := { name := "lettersBytes", fn := fun _ => fun
  | [d] => { results := [.lit (.bool true)], args := [d] }
  | _ => none }
def lettersBytesRow : OpenClaim := { program := "ytdblkhijcijgbaa", sum := "83d6a659c7784177b869831bf7523e9e40b13b15f5d50588bb803b0f19f79bb8", func := "variorum/variorumlaw22.LettersBytes", spec := "lettersBytes", unfollowed := true, recurses := true, apart := false }
def LettersBytesSaid : Prop := lettersBytesRow.holds Try.pinned (OpenSpec.ofChange lettersBytesSpec)

/-- ITS FALSE NEIGHBOUR: 'it returns false'. Refute it at one input. -/
def lettersBytesWrong : ChangeSpec := { name := "lettersBytes", fn := fun _ => fun
  | [d] => { results := [.lit (.bool false)], args := [d] }
  | _ => none }
def LettersBytesWrongFalsely : Prop := lettersBytesRow.holds Try.pinned (OpenSpec.ofChange lettersBytesWrong)

/-- 'variorumlaw22.LettersWords': WHATEVER THE INPUT: true; the input reads as it did. -/
def lettersWordsSpec : ChangeSpec := { name := "lettersWords", fn := fun _ => fun
  | [d] => { results := [.lit (.bool true)], args := [d] }
  | _ => none }
def lettersWordsRow : OpenClaim := { program := "ytdblkhijcijgbaa", sum := "83d6a659c7784177b869831bf7523e9e40b13b15f5d50588bb803b0f19f79bb8", func := "variorum/variorumlaw22.LettersWords", spec := "lettersWords", unfollowed := true, recurses := true, apart := false }
def LettersWordsSaid : Prop := lettersWordsRow.holds Try.pinned (OpenSpec.ofChange lettersWordsSpec)

/-- ITS FALSE NEIGHBOUR: 'it returns false'. Refute it at one input. -/
def lettersWordsWrong : ChangeSpec := { name := "lettersWords", fn := fun _ => fun
  | [d] => { results := [.lit (.bool false)], args := [d] }
  | _ => none }
def LettersWordsWrongFalsely : Prop := lettersWordsRow.holds Try.pinned (OpenSpec.ofChange lettersWordsWrong)

/-- 'variorumlaw23.LexerCovers': WHATEVER THE INPUT: true; the input reads as it did. -/
def lexerCoversSpec : ChangeSpec := { name := "lexerCovers", fn := fun _ => fun
  | [d] => { results := [.lit (.bool true)], args := [d] }
  | _ => none }
def lexerCoversRow : OpenClaim := { program := "ytdblkhijcijgbaa", sum := "83d6a659c7784177b869831bf7523e9e40b13b15f5d50588bb803b0f19f79bb8", func := "variorum/variorumlaw23.LexerCovers", spec := "lexerCovers", unfollowed := true, recurses := true, apart := false }
def LexerCoversSaid : Prop := lexerCoversRow.holds Try.pinned (OpenSpec.ofChange lexerCoversSpec)

/-- ITS FALSE NEIGHBOUR: 'it returns false'. Refute it at one input. -/
def lexerCoversWrong : ChangeSpec := { name := "lexerCovers", fn := fun _ => fun
  | [d] => { results := [.lit (.bool false)], args := [d] }
  | _ => none }
def LexerCoversWrongFalsely : Prop := lexerCoversRow.holds Try.pinned (OpenSpec.ofChange lexerCoversWrong)

/-- 'variorumlaw23.LexerLines': WHATEVER THE INPUT: true; the input reads as it did. -/
def lexerLinesSpec : ChangeSpec := { name := "lexerLines", fn := fun _ => fun
  | [d] => { results := [.lit (.bool true)], args := [d] }
  | _ => none }
def lexerLinesRow : OpenClaim := { program := "ytdblkhijcijgbaa", sum := "83d6a659c7784177b869831bf7523e9e40b13b15f5d50588bb803b0f19f79bb8", func := "variorum/variorumlaw23.LexerLines", spec := "lexerLines", unfollowed := true, recurses := true, apart := false }
def LexerLinesSaid : Prop := lexerLinesRow.holds Try.pinned (OpenSpec.ofChange lexerLinesSpec)

/-- ITS FALSE NEIGHBOUR: 'it returns false'. Refute it at one input. -/
def lexerLinesWrong : ChangeSpec := { name := "lexerLines", fn := fun _ => fun
  | [d] => { results := [.lit (.bool false)], args := [d] }
  | _ => none }
def LexerLinesWrongFalsely : Prop := lexerLinesRow.holds Try.pinned (OpenSpec.ofChange lexerLinesWrong)

/-- 'variorumlaw23.LexerTells': WHATEVER THE INPUT: true; the input reads as it did. -/
def lexerTellsSpec : ChangeSpec := { name := "lexerTells", fn := fun _ => fun
  | [d1, d2, d3] => { results := [.lit (.bool true)], args := [d1, d2, d3] }
  | _ => none }
def lexerTellsRow : OpenClaim := { program := "ytdblkhijcijgbaa", sum := "83d6a659c7784177b869831bf7523e9e40b13b15f5d50588bb803b0f19f79bb8", func := "variorum/variorumlaw23.LexerTells", spec := "lexerTells", unfollowed := true, recurses := true, apart := false }
def LexerTellsSaid : Prop := lexerTellsRow.holds Try.pinned (OpenSpec.ofChange lexerTellsSpec)

/-- ITS FALSE NEIGHBOUR: 'it returns false'. Refute it at one input. -/
def lexerTellsWrong : ChangeSpec := { name := "lexerTells", fn := fun _ => fun
  | [d1, d2, d3] => { results := [.lit (.bool false)], args := [d1, d2, d3] }
  | _ => none }
def LexerTellsWrongFalsely : Prop := lexerTellsRow.holds Try.pinned (OpenSpec.ofChange lexerTellsWrong)

/- THE SECOND FORM. 'bulk': how many values and letters a reading holds, each counted each time it is reached (what is shared counts as often as it is met; a slice's spare places count too). A statement '..UptoSaid' is the law's where the arguments, and the package variables that the reading takes, are together of bulk at most 1048576: NARROWER than '..Said'. Prove '..Said' where nothing that the law and all that it calls make is longer than what came in: it says more and counts as full. Else prove '..UptoSaid'. A law counts once. -/
mutual
def uptoBulk {H : Type} : DataW H → Nat
  | .lit (.string bytes) => bytes.length + 1
  | .lit _ => 1
  | .nil => 1
  | .ptr d => uptoBulk d + 1
  | .slice elems spare => uptoBulkAll elems + uptoBulkAll spare + 1
  | .agg parts => uptoBulkAll parts + 1
  | .iface _ d => uptoBulk d + 1
  | .map entries => uptoBulkEntries entries + 1
  | .held _ => 1
def uptoBulkAll {H : Type} : List (DataW H) → Nat
  | [] => 0
  | d :: r => uptoBulk d + uptoBulkAll r
def uptoBulkEntries {H : Type} : List (Lit × DataW H) → Nat
  | [] => 0
  | x :: r => uptoBulkEntry x + uptoBulkEntries r
def uptoBulkEntry {H : Type} : Lit × DataW H → Nat
  | (.string bytes, d) => bytes.length + uptoBulk d + 1
  | (_, d) => uptoBulk d + 1
 end
def uptoSmall : (H : Type) → List (DataW H) → Bool := fun _ ds => decide (uptoBulkAll ds ≤ 1048576)
def OpenSpec.upto (s : _root_.Go.ChangeSpec) : _root_.Go.OpenSpec := { _root_.Go.OpenSpec.ofChange s with cond := some uptoSmall }

/-- 'variorumlaw22.LettersTexts', WHERE WHAT IT READS IS OF BULK AT MOST 1048576: true; the input reads as it did. -/
def lettersTextsUptoRow : OpenClaim := { program := "ytdblkhijcijgbaa", sum := "83d6a659c7784177b869831bf7523e9e40b13b15f5d50588bb803b0f19f79bb8", func := "variorum/variorumlaw22.LettersTexts", spec := "lettersTexts", unfollowed := true, recurses := true, apart := false, narrowed := true }
def LettersTextsUptoSaid : Prop := lettersTextsUptoRow.holds Try.pinned (OpenSpec.upto lettersTextsSpec)

/-- 'variorumlaw22.LettersBytes', WHERE WHAT IT READS IS OF BULK AT MOST 1048576: true; the input reads as it did. -/
def lettersBytesUptoRow : OpenClaim := { program := "ytdblkhijcijgbaa", sum := "83d6a659c7784177b869831bf7523e9e40b13b15f5d50588bb803b0f19f79bb8", func := "variorum/variorumlaw22.LettersBytes", spec := "lettersBytes", unfollowed := true, recurses := true, apart := false, narrowed := true }
def LettersBytesUptoSaid : Prop := lettersBytesUptoRow.holds Try.pinned (OpenSpec.upto lettersBytesSpec)

/-- 'variorumlaw22.LettersWords', WHERE WHAT IT READS IS OF BULK AT MOST 1048576: true; the input reads as it did. -/
def lettersWordsUptoRow : OpenClaim := { program := "ytdblkhijcijgbaa", sum := "83d6a659c7784177b869831bf7523e9e40b13b15f5d50588bb803b0f19f79bb8", func := "variorum/variorumlaw22.LettersWords", spec := "lettersWords", unfollowed := true, recurses := true, apart := false, narrowed := true }
def LettersWordsUptoSaid : Prop := lettersWordsUptoRow.holds Try.pinned (OpenSpec.upto lettersWordsSpec)

/-- 'variorumlaw23.LexerCovers', WHERE WHAT IT READS IS OF BULK AT MOST 1048576: true; the input reads as it did. -/
def lexerCoversUptoRow : OpenClaim := { program := "ytdblkhijcijgbaa", sum := "83d6a659c7784177b869831bf7523e9e40b13b15f5d50588bb803b0f19f79bb8", func := "variorum/variorumlaw23.LexerCovers", spec := "lexerCovers", unfollowed := true, recurses := true, apart := false, narrowed := true }
def LexerCoversUptoSaid : Prop := lexerCoversUptoRow.holds Try.pinned (OpenSpec.upto lexerCoversSpec)

/-- 'variorumlaw23.LexerLines', WHERE WHAT IT READS IS OF BULK AT MOST 1048576: true; the input reads as it did. -/
def lexerLinesUptoRow : OpenClaim := { program := "ytdblkhijcijgbaa", sum := "83d6a659c7784177b869831bf7523e9e40b13b15f5d50588bb803b0f19f79bb8", func := "variorum/variorumlaw23.LexerLines", spec := "lexerLines", unfollowed := true, recurses := true, apart := false, narrowed := true }
def LexerLinesUptoSaid : Prop := lexerLinesUptoRow.holds Try.pinned (OpenSpec.upto lexerLinesSpec)

/-- 'variorumlaw23.LexerTells', WHERE WHAT IT READS IS OF BULK AT MOST 1048576: true; the input reads as it did. -/
def lexerTellsUptoRow : OpenClaim := { program := "ytdblkhijcijgbaa", sum := "83d6a659c7784177b869831bf7523e9e40b13b15f5d50588bb803b0f19f79bb8", func := "variorum/variorumlaw23.LexerTells", spec := "lexerTells", unfollowed := true, recurses := true, apart := false, narrowed := true }
def LexerTellsUptoSaid : Prop := lexerTellsUptoRow.holds Try.pinned (OpenSpec.upto lexerTellsSpec)

end Rows
end Go.Proofs.Ytdblkhijcijgbaa
