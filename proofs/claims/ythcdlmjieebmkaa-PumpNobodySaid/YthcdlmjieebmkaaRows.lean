/-
  No cell of these rows narrows 'for every input' (looked for: loops, veiled, ifaces, maps, wideKeys, modest, calm, conditions, laid).
  DERIVED. THE GIVEN ROWS OF THIS SEAT. 3 by the template 'for every input the law returns true; each argument reads behind the call as it read before'; 0 by the template 'total and deterministic' (their statements: YthcdlmjieebmkaaTotals.lean).
  GIVEN WITH THE SEED: the statements are not yours to turn. If you find one false, say at which input.
  Laid BY PROGRAM, IN A SANDBOX (cutbox-rows.mjs): the forced cells as the released guide's own fill.sh prints them over the translation dcd458c40eb97fb6… (all of the seat's roots in one cut). By AI agents, Wed Nov 11 2026. No macro, syntax, notation, axiom, sorry.
-/
import Derived.Test.YthcdlmjieebmkaaChecked
import GoSem.Claim
import GoSem.ClaimJoined
import GoSem.ClaimMapViews
import Derived.JoinedTies
import Derived.KernelRfl
namespace Go.Proofs.Ythcdlmjieebmkaa
/- THE CELL 'sum', in the pinned program and in every row, IS THE sha256 OF THE DUMP (.gsa) THAT YthcdlmjieebmkaaProg.lean LOADS. Nothing in Lean hashes anything: it is a label: what it is worth is what the hold of that sum in a sandbox is worth. -/
noncomputable def Try.pinned : Pinned := { name := "ythcdlmjieebmkaa", sum := "dcd458c40eb97fb6b95f4b060ddb1b717047bafcb91b0ecc196399e85100bb35", checked := Try.checked }
namespace Rows
def none {H : Type} : Left H := { results := [], args := [] }

/-- 'variorumlaw41.PumpOrder': WHATEVER THE INPUT: true; the input reads as it did. -/
def pumpOrderSpec : ChangeSpec := { name := "pumpOrder", fn := fun _ => fun
  | [d1, d2, d3] => { results := [.lit (.bool true)], args := [d1, d2, d3] }
  | _ => none }
def pumpOrderRow : OpenClaim := { program := "ythcdlmjieebmkaa", sum := "dcd458c40eb97fb6b95f4b060ddb1b717047bafcb91b0ecc196399e85100bb35", func := "variorum/variorumlaw41.PumpOrder", spec := "pumpOrder", unfollowed := true, recurses := true, apart := false }
def PumpOrderSaid : Prop := pumpOrderRow.holds Try.pinned (OpenSpec.ofChange pumpOrderSpec)

/-- ITS FALSE NEIGHBOUR: 'it returns false'. Refute it at one input. -/
def pumpOrderWrong : ChangeSpec := { name := "pumpOrder", fn := fun _ => fun
  | [d1, d2, d3] => { results := [.lit (.bool false)], args := [d1, d2, d3] }
  | _ => none }
def PumpOrderWrongFalsely : Prop := pumpOrderRow.holds Try.pinned (OpenSpec.ofChange pumpOrderWrong)

/-- 'variorumlaw41.PumpPlays': WHATEVER THE INPUT: true; the input reads as it did. -/
def pumpPlaysSpec : ChangeSpec := { name := "pumpPlays", fn := fun _ => fun
  | [d1, d2] => { results := [.lit (.bool true)], args := [d1, d2] }
  | _ => none }
def pumpPlaysRow : OpenClaim := { program := "ythcdlmjieebmkaa", sum := "dcd458c40eb97fb6b95f4b060ddb1b717047bafcb91b0ecc196399e85100bb35", func := "variorum/variorumlaw41.PumpPlays", spec := "pumpPlays", unfollowed := true, recurses := true, apart := false }
def PumpPlaysSaid : Prop := pumpPlaysRow.holds Try.pinned (OpenSpec.ofChange pumpPlaysSpec)

/-- ITS FALSE NEIGHBOUR: 'it returns false'. Refute it at one input. -/
def pumpPlaysWrong : ChangeSpec := { name := "pumpPlays", fn := fun _ => fun
  | [d1, d2] => { results := [.lit (.bool false)], args := [d1, d2] }
  | _ => none }
def PumpPlaysWrongFalsely : Prop := pumpPlaysRow.holds Try.pinned (OpenSpec.ofChange pumpPlaysWrong)

/-- 'variorumlaw41.PumpNobody': WHATEVER THE INPUT: true; the input reads as it did. -/
def pumpNobodySpec : ChangeSpec := { name := "pumpNobody", fn := fun _ => fun
  | [d] => { results := [.lit (.bool true)], args := [d] }
  | _ => none }
def pumpNobodyRow : OpenClaim := { program := "ythcdlmjieebmkaa", sum := "dcd458c40eb97fb6b95f4b060ddb1b717047bafcb91b0ecc196399e85100bb35", func := "variorum/variorumlaw41.PumpNobody", spec := "pumpNobody", unfollowed := true, recurses := true, apart := false }
def PumpNobodySaid : Prop := pumpNobodyRow.holds Try.pinned (OpenSpec.ofChange pumpNobodySpec)

/-- ITS FALSE NEIGHBOUR: 'it returns false'. Refute it at one input. -/
def pumpNobodyWrong : ChangeSpec := { name := "pumpNobody", fn := fun _ => fun
  | [d] => { results := [.lit (.bool false)], args := [d] }
  | _ => none }
def PumpNobodyWrongFalsely : Prop := pumpNobodyRow.holds Try.pinned (OpenSpec.ofChange pumpNobodyWrong)

/- THE SECOND FORM. 'bulk': how many values and letters a reading holds, each counted each time it is reached (what is shared counts as often as it is met; a slice's spare places count too). A statement '..UptoSaid' is the law's where the arguments, and the package variables that the reading takes, are together of bulk at most 1048576: NARROWER than '..Said'. Prove '..Said' where nothing that the law and all that it calls make is longer than what came in: it says more and counts as full. Else prove '..UptoSaid'. A law counts once. -/
mutual
def uptoBulk {H : Type} : DataW H → Nat
  | .lit (.string bytes) => bytes.length + 1
  | .lit _ => 1
  | .nil => 1
  | .ptr d => uptoBulk d + 1
  | .slice elems spare => uptoBulkAll elems + uptoBulkAll spare + 1
  | .agg parts => uptoBulkAll parts + 1
  | .iface _ d => uptoBulk d + 1
  | .map entries => uptoBulkEntries entries + 1
  | .held _ => 1
def uptoBulkAll {H : Type} : List (DataW H) → Nat
  | [] => 0
  | d :: r => uptoBulk d + uptoBulkAll r
def uptoBulkEntries {H : Type} : List (Lit × DataW H) → Nat
  | [] => 0
  | x :: r => uptoBulkEntry x + uptoBulkEntries r
def uptoBulkEntry {H : Type} : Lit × DataW H → Nat
  | (.string bytes, d) => bytes.length + uptoBulk d + 1
  | (_, d) => uptoBulk d + 1
 end
def uptoSmall : (H : Type) → List (DataW H) → Bool := fun _ ds => decide (uptoBulkAll ds ≤ 1048576)
def OpenSpec.upto (s : _root_.Go.ChangeSpec) : _root_.Go.OpenSpec := { _root_.Go.OpenSpec.ofChange s with cond := some uptoSmall }

/-- 'variorumlaw41.PumpOrder', WHERE WHAT IT READS IS OF BULK AT MOST 1048576: true; the input reads as it did. -/
def pumpOrderUptoRow : OpenClaim := { program := "ythcdlmjieebmkaa", sum := "dcd458c40eb97fb6b95f4b060ddb1b717047bafcb91b0ecc196399e85100bb35", func := "variorum/variorumlaw41.PumpOrder", spec := "pumpOrder", unfollowed := true, recurses := true, apart := false, narrowed := true }
def PumpOrderUptoSaid : Prop := pumpOrderUptoRow.holds Try.pinned (OpenSpec.upto pumpOrderSpec)

/-- 'variorumlaw41.PumpPlays', WHERE WHAT IT READS IS OF BULK AT MOST 1048576: true; the input reads as it did. -/
def pumpPlaysUptoRow : OpenClaim := { program := "ythcdlmjieebmkaa", sum := "dcd458c40eb97fb6b95f4b060ddb1b717047bafcb91b0ecc196399e85100bb35", func := "variorum/variorumlaw41.PumpPlays", spec := "pumpPlays", unfollowed := true, recurses := true, apart := false, narrowed := true }
def PumpPlaysUptoSaid : Prop := pumpPlaysUptoRow.holds Try.pinned (OpenSpec.upto pumpPlaysSpec)

/-- 'variorumlaw41.PumpNobody', WHERE WHAT IT READS IS OF BULK AT MOST 1048576: true; the input reads as it did. -/
def pumpNobodyUptoRow : OpenClaim := { program := "ythcdlmjieebmkaa", sum := "dcd458c40eb97fb6b95f4b060ddb1b717047bafcb91b0ecc196399e85100bb35", func := "variorum/variorumlaw41.PumpNobody", spec := "pumpNobody", unfollowed := true, recurses := true, apart := false, narrowed := true }
def PumpNobodyUptoSaid : Prop := pumpNobodyUptoRow.holds Try.pinned (OpenSpec.upto pumpNobodySpec)

end Rows
end Go.Proofs.Ythcdlmjieebmkaa
