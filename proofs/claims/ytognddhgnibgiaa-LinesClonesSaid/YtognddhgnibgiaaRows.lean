/-
  No cell of these rows narrows 'for every input' (looked for: loops, veiled, ifaces, maps, wideKeys, modest, calm, conditions, laid).
  DERIVED. THE GIVEN ROWS OF THIS SEAT. 4 by the template 'for every input the law returns true; each argument reads behind the call as it read before'; 0 by the template 'total and deterministic' (their statements: YtognddhgnibgiaaTotals.lean).
  GIVEN WITH THE SEED: the statements are not yours to turn. If you find one false, say at which input.
  Laid BY PROGRAM, IN A SANDBOX (cutbox-rows.mjs): the forced cells as the released guide's own fill.sh prints them over the translation 0ba34383fccefabc… (all of the seat's roots in one cut). By AI agents, Wed Nov 11 2026. No macro, syntax, notation, axiom, sorry.
-/
import Derived.Test.YtognddhgnibgiaaChecked
import GoSem.Claim
import GoSem.ClaimJoined
import GoSem.ClaimMapViews
import Derived.JoinedTies
import Derived.KernelRfl
namespace Go.Proofs.Ytognddhgnibgiaa
/- THE CELL 'sum', in the pinned program and in every row, IS THE sha256 OF THE DUMP (.gsa) THAT YtognddhgnibgiaaProg.lean LOADS. Nothing in Lean hashes anything: it is a label: what it is worth is what the hold of that sum in a sandbox is worth. -/
noncomputable def Try.pinned : Pinned := { name := "ytognddhgnibgiaa", sum := "0ba34383fccefabc05a4dc1c8239cc43b07565d1cadd1ac2885602db41993b89", checked := Try.checked }
namespace Rows
def none {H : Type} : Left H := { results := [], args := [] }

/-- 'variorumlaw05.LinesBack': WHATEVER THE INPUT: true; the input reads as it did. -/
def linesBackSpec : ChangeSpec := { name := "linesBack", fn := fun _ => fun
  | [d1, d2] => { results := [.lit (.bool true)], args := [d1, d2] }
  | _ => none }
def linesBackRow : OpenClaim := { program := "ytognddhgnibgiaa", sum := "0ba34383fccefabc05a4dc1c8239cc43b07565d1cadd1ac2885602db41993b89", func := "variorum/variorumlaw05.LinesBack", spec := "linesBack", unfollowed := true, recurses := true, apart := false }
def LinesBackSaid : Prop := linesBackRow.holds Try.pinned (OpenSpec.ofChange linesBackSpec)

/-- ITS FALSE NEIGHBOUR: 'it returns false'. Refute it at one input. -/
def linesBackWrong : ChangeSpec := { name := "linesBack", fn := fun _ => fun
  | [d1, d2] => { results := [.lit (.bool false)], args := [d1, d2] }
  | _ => none }
def LinesBackWrongFalsely : Prop := linesBackRow.holds Try.pinned (OpenSpec.ofChange linesBackWrong)

/-- 'variorumlaw05.LinesPlay': WHATEVER THE INPUT: true; the input reads as it did. -/
def linesPlaySpec : ChangeSpec := { name := "linesPlay", fn := fun _ => fun
  | [d1, d2, d3, d4, d5] => { results := [.lit (.bool true)], args := [d1, d2, d3, d4, d5] }
  | _ => none }
def linesPlayRow : OpenClaim := { program := "ytognddhgnibgiaa", sum := "0ba34383fccefabc05a4dc1c8239cc43b07565d1cadd1ac2885602db41993b89", func := "variorum/variorumlaw05.LinesPlay", spec := "linesPlay", unfollowed := true, recurses := true, apart := false }
def LinesPlaySaid : Prop := linesPlayRow.holds Try.pinned (OpenSpec.ofChange linesPlaySpec)

/-- ITS FALSE NEIGHBOUR: 'it returns false'. Refute it at one input. -/
def linesPlayWrong : ChangeSpec := { name := "linesPlay", fn := fun _ => fun
  | [d1, d2, d3, d4, d5] => { results := [.lit (.bool false)], args := [d1, d2, d3, d4, d5] }
  | _ => none }
def LinesPlayWrongFalsely : Prop := linesPlayRow.holds Try.pinned (OpenSpec.ofChange linesPlayWrong)

/-- 'variorumlaw05.LinesClones': WHATEVER THE INPUT: true; the input reads as it did. -/
def linesClonesSpec : ChangeSpec := { name := "linesClones", fn := fun _ => fun
  | [d1, d2, d3] => { results := [.lit (.bool true)], args := [d1, d2, d3] }
  | _ => none }
def linesClonesRow : OpenClaim := { program := "ytognddhgnibgiaa", sum := "0ba34383fccefabc05a4dc1c8239cc43b07565d1cadd1ac2885602db41993b89", func := "variorum/variorumlaw05.LinesClones", spec := "linesClones", unfollowed := true, recurses := true, apart := false }
def LinesClonesSaid : Prop := linesClonesRow.holds Try.pinned (OpenSpec.ofChange linesClonesSpec)

/-- ITS FALSE NEIGHBOUR: 'it returns false'. Refute it at one input. -/
def linesClonesWrong : ChangeSpec := { name := "linesClones", fn := fun _ => fun
  | [d1, d2, d3] => { results := [.lit (.bool false)], args := [d1, d2, d3] }
  | _ => none }
def LinesClonesWrongFalsely : Prop := linesClonesRow.holds Try.pinned (OpenSpec.ofChange linesClonesWrong)

/-- 'variorumlaw05.LinesNobody': WHATEVER THE INPUT: true; the input reads as it did. -/
def linesNobodySpec : ChangeSpec := { name := "linesNobody", fn := fun _ => fun
  | [d1, d2] => { results := [.lit (.bool true)], args := [d1, d2] }
  | _ => none }
def linesNobodyRow : OpenClaim := { program := "ytognddhgnibgiaa", sum := "0ba34383fccefabc05a4dc1c8239cc43b07565d1cadd1ac2885602db41993b89", func := "variorum/variorumlaw05.LinesNobody", spec := "linesNobody", unfollowed := true, recurses := true, apart := false }
def LinesNobodySaid : Prop := linesNobodyRow.holds Try.pinned (OpenSpec.ofChange linesNobodySpec)

/-- ITS FALSE NEIGHBOUR: 'it returns false'. Refute it at one input. -/
def linesNobodyWrong : ChangeSpec := { name := "linesNobody", fn := fun _ => fun
  | [d1, d2] => { results := [.lit (.bool false)], args := [d1, d2] }
  | _ => none }
def LinesNobodyWrongFalsely : Prop := linesNobodyRow.holds Try.pinned (OpenSpec.ofChange linesNobodyWrong)

/- THE SECOND FORM. 'bulk': how many values and letters a reading holds, each counted each time it is reached (what is shared counts as often as it is met; a slice's spare places count too). A statement '..UptoSaid' is the law's where the arguments, and the package variables that the reading takes, are together of bulk at most 1048576: NARROWER than '..Said'. Prove '..Said' where nothing that the law and all that it calls make is longer than what came in: it says more and counts as full. Else prove '..UptoSaid'. A law counts once. -/
mutual
def uptoBulk {H : Type} : DataW H → Nat
  | .lit (.string bytes) => bytes.length + 1
  | .lit _ => 1
  | .nil => 1
  | .ptr d => uptoBulk d + 1
  | .slice elems spare => uptoBulkAll elems + uptoBulkAll spare + 1
  | .agg parts => uptoBulkAll parts + 1
  | .iface _ d => uptoBulk d + 1
  | .map entries => uptoBulkEntries entries + 1
  | .held _ => 1
def uptoBulkAll {H : Type} : List (DataW H) → Nat
  | [] => 0
  | d :: r => uptoBulk d + uptoBulkAll r
def uptoBulkEntries {H : Type} : List (Lit × DataW H) → Nat
  | [] => 0
  | x :: r => uptoBulkEntry x + uptoBulkEntries r
def uptoBulkEntry {H : Type} : Lit × DataW H → Nat
  | (.string bytes, d) => bytes.length + uptoBulk d + 1
  | (_, d) => uptoBulk d + 1
 end
def uptoSmall : (H : Type) → List (DataW H) → Bool := fun _ ds => decide (uptoBulkAll ds ≤ 1048576)
def OpenSpec.upto (s : _root_.Go.ChangeSpec) : _root_.Go.OpenSpec := { _root_.Go.OpenSpec.ofChange s with cond := some uptoSmall }

/-- 'variorumlaw05.LinesBack', WHERE WHAT IT READS IS OF BULK AT MOST 1048576: true; the input reads as it did. -/
def linesBackUptoRow : OpenClaim := { program := "ytognddhgnibgiaa", sum := "0ba34383fccefabc05a4dc1c8239cc43b07565d1cadd1ac2885602db41993b89", func := "variorum/variorumlaw05.LinesBack", spec := "linesBack", unfollowed := true, recurses := true, apart := false, narrowed := true }
def LinesBackUptoSaid : Prop := linesBackUptoRow.holds Try.pinned (OpenSpec.upto linesBackSpec)

/-- 'variorumlaw05.LinesPlay', WHERE WHAT IT READS IS OF BULK AT MOST 1048576: true; the input reads as it did. -/
def linesPlayUptoRow : OpenClaim := { program := "ytognddhgnibgiaa", sum := "0ba34383fccefabc05a4dc1c8239cc43b07565d1cadd1ac2885602db41993b89", func := "variorum/variorumlaw05.LinesPlay", spec := "linesPlay", unfollowed := true, recurses := true, apart := false, narrowed := true }
def LinesPlayUptoSaid : Prop := linesPlayUptoRow.holds Try.pinned (OpenSpec.upto linesPlaySpec)

/-- 'variorumlaw05.LinesClones', WHERE WHAT IT READS IS OF BULK AT MOST 1048576: true; the input reads as it did. -/
def linesClonesUptoRow : OpenClaim := { program := "ytognddhgnibgiaa", sum := "0ba34383fccefabc05a4dc1c8239cc43b07565d1cadd1ac2885602db41993b89", func := "variorum/variorumlaw05.LinesClones", spec := "linesClones", unfollowed := true, recurses := true, apart := false, narrowed := true }
def LinesClonesUptoSaid : Prop := linesClonesUptoRow.holds Try.pinned (OpenSpec.upto linesClonesSpec)

/-- 'variorumlaw05.LinesNobody', WHERE WHAT IT READS IS OF BULK AT MOST 1048576: true; the input reads as it did. -/
def linesNobodyUptoRow : OpenClaim := { program := "ytognddhgnibgiaa", sum := "0ba34383fccefabc05a4dc1c8239cc43b07565d1cadd1ac2885602db41993b89", func := "variorum/variorumlaw05.LinesNobody", spec := "linesNobody", unfollowed := true, recurses := true, apart := false, narrowed := true }
def LinesNobodyUptoSaid : Prop := linesNobodyUptoRow.holds Try.pinned (OpenSpec.upto linesNobodySpec)

end Rows
end Go.Proofs.Ytognddhgnibgiaa
