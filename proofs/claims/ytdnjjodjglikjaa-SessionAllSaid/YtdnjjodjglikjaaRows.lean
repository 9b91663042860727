/-
  No cell of these rows narrows 'for every input' (looked for: loops, veiled, ifaces, maps, wideKeys, modest, calm, conditions, laid).
  DERIVED. THE GIVEN ROWS OF THIS SEAT. 8 by the template 'for every input the law returns true; each argument reads behind the call as it read before'; 0 by the template 'total and deterministic' (their statements: YtdnjjodjglikjaaTotals.lean).
  GIVEN WITH THE SEED: the statements are not yours to turn. If you find one false, say at which input.
  Laid BY PROGRAM, IN A SANDBOX (cutbox-rows.mjs): the forced cells as the released guide's own fill.sh prints them over the translation 22eea5c250f48a87… (all of the seat's roots in one cut). By AI agents, Wed Nov 11 2026. No macro, syntax, notation, axiom, sorry.
-/
import Derived.Test.YtdnjjodjglikjaaChecked
import GoSem.Claim
import GoSem.ClaimJoined
import GoSem.ClaimMapViews
import Derived.JoinedTies
import Derived.KernelRfl
namespace Go.Proofs.Ytdnjjodjglikjaa
/- THE CELL 'sum', in the pinned program and in every row, IS THE sha256 OF THE DUMP (.gsa) THAT YtdnjjodjglikjaaProg.lean LOADS. Nothing in Lean hashes anything: it is a label: what it is worth is what the hold of that sum in a sandbox is worth. -/
noncomputable def Try.pinned : Pinned := { name := "ytdnjjodjglikjaa", sum := "22eea5c250f48a87ce80cb42b68de7e5cf7912d12276ed4deb8e90c1c37d437f", checked := Try.checked }
namespace Rows
def none {H : Type} : Left H := { results := [], args := [] }

/-- 'variorumlaw14.WindowNobody': WHATEVER THE INPUT: true; the input reads as it did. -/
def windowNobodySpec : ChangeSpec := { name := "windowNobody", fn := fun _ => fun
  | [d1, d2] => { results := [.lit (.bool true)], args := [d1, d2] }
  | _ => none }
def windowNobodyRow : OpenClaim := { program := "ytdnjjodjglikjaa", sum := "22eea5c250f48a87ce80cb42b68de7e5cf7912d12276ed4deb8e90c1c37d437f", func := "variorum/variorumlaw14.WindowNobody", spec := "windowNobody", unfollowed := true, recurses := true, apart := false }
def WindowNobodySaid : Prop := windowNobodyRow.holds Try.pinned (OpenSpec.ofChange windowNobodySpec)

/-- ITS FALSE NEIGHBOUR: 'it returns false'. Refute it at one input. -/
def windowNobodyWrong : ChangeSpec := { name := "windowNobody", fn := fun _ => fun
  | [d1, d2] => { results := [.lit (.bool false)], args := [d1, d2] }
  | _ => none }
def WindowNobodyWrongFalsely : Prop := windowNobodyRow.holds Try.pinned (OpenSpec.ofChange windowNobodyWrong)

/-- 'variorumlaw14.WindowPlays': WHATEVER THE INPUT: true; the input reads as it did. -/
def windowPlaysSpec : ChangeSpec := { name := "windowPlays", fn := fun _ => fun
  | [d1, d2] => { results := [.lit (.bool true)], args := [d1, d2] }
  | _ => none }
def windowPlaysRow : OpenClaim := { program := "ytdnjjodjglikjaa", sum := "22eea5c250f48a87ce80cb42b68de7e5cf7912d12276ed4deb8e90c1c37d437f", func := "variorum/variorumlaw14.WindowPlays", spec := "windowPlays", unfollowed := true, recurses := true, apart := false }
def WindowPlaysSaid : Prop := windowPlaysRow.holds Try.pinned (OpenSpec.ofChange windowPlaysSpec)

/-- ITS FALSE NEIGHBOUR: 'it returns false'. Refute it at one input. -/
def windowPlaysWrong : ChangeSpec := { name := "windowPlays", fn := fun _ => fun
  | [d1, d2] => { results := [.lit (.bool false)], args := [d1, d2] }
  | _ => none }
def WindowPlaysWrongFalsely : Prop := windowPlaysRow.holds Try.pinned (OpenSpec.ofChange windowPlaysWrong)

/-- 'variorumlaw14.WindowOnce': WHATEVER THE INPUT: true; the input reads as it did. -/
def windowOnceSpec : ChangeSpec := { name := "windowOnce", fn := fun _ => fun
  | [d1, d2, d3] => { results := [.lit (.bool true)], args := [d1, d2, d3] }
  | _ => none }
def windowOnceRow : OpenClaim := { program := "ytdnjjodjglikjaa", sum := "22eea5c250f48a87ce80cb42b68de7e5cf7912d12276ed4deb8e90c1c37d437f", func := "variorum/variorumlaw14.WindowOnce", spec := "windowOnce", unfollowed := true, recurses := true, apart := false }
def WindowOnceSaid : Prop := windowOnceRow.holds Try.pinned (OpenSpec.ofChange windowOnceSpec)

/-- ITS FALSE NEIGHBOUR: 'it returns false'. Refute it at one input. -/
def windowOnceWrong : ChangeSpec := { name := "windowOnce", fn := fun _ => fun
  | [d1, d2, d3] => { results := [.lit (.bool false)], args := [d1, d2, d3] }
  | _ => none }
def WindowOnceWrongFalsely : Prop := windowOnceRow.holds Try.pinned (OpenSpec.ofChange windowOnceWrong)

/-- 'variorumlaw15.SessionOnce': WHATEVER THE INPUT: true; the input reads as it did. -/
def sessionOnceSpec : ChangeSpec := { name := "sessionOnce", fn := fun _ => fun
  | [d1, d2, d3] => { results := [.lit (.bool true)], args := [d1, d2, d3] }
  | _ => none }
def sessionOnceRow : OpenClaim := { program := "ytdnjjodjglikjaa", sum := "22eea5c250f48a87ce80cb42b68de7e5cf7912d12276ed4deb8e90c1c37d437f", func := "variorum/variorumlaw15.SessionOnce", spec := "sessionOnce", unfollowed := true, recurses := true, apart := false }
def SessionOnceSaid : Prop := sessionOnceRow.holds Try.pinned (OpenSpec.ofChange sessionOnceSpec)

/-- ITS FALSE NEIGHBOUR: 'it returns false'. Refute it at one input. -/
def sessionOnceWrong : ChangeSpec := { name := "sessionOnce", fn := fun _ => fun
  | [d1, d2, d3] => { results := [.lit (.bool false)], args := [d1, d2, d3] }
  | _ => none }
def SessionOnceWrongFalsely : Prop := sessionOnceRow.holds Try.pinned (OpenSpec.ofChange sessionOnceWrong)

/-- 'variorumlaw15.SessionAll': WHATEVER THE INPUT: true; the input reads as it did. -/
def sessionAllSpec : ChangeSpec := { name := "sessionAll", fn := fun _ => fun
  | [d1, d2, d3] => { results := [.lit (.bool true)], args := [d1, d2, d3] }
  | _ => none }
def sessionAllRow : OpenClaim := { program := "ytdnjjodjglikjaa", sum := "22eea5c250f48a87ce80cb42b68de7e5cf7912d12276ed4deb8e90c1c37d437f", func := "variorum/variorumlaw15.SessionAll", spec := "sessionAll", unfollowed := true, recurses := true, apart := false }
def SessionAllSaid : Prop := sessionAllRow.holds Try.pinned (OpenSpec.ofChange sessionAllSpec)

/-- ITS FALSE NEIGHBOUR: 'it returns false'. Refute it at one input. -/
def sessionAllWrong : ChangeSpec := { name := "sessionAll", fn := fun _ => fun
  | [d1, d2, d3] => { results := [.lit (.bool false)], args := [d1, d2, d3] }
  | _ => none }
def SessionAllWrongFalsely : Prop := sessionAllRow.holds Try.pinned (OpenSpec.ofChange sessionAllWrong)

/-- 'variorumlaw15.SessionPlays': WHATEVER THE INPUT: true; the input reads as it did. -/
def sessionPlaysSpec : ChangeSpec := { name := "sessionPlays", fn := fun _ => fun
  | [d1, d2, d3, d4] => { results := [.lit (.bool true)], args := [d1, d2, d3, d4] }
  | _ => none }
def sessionPlaysRow : OpenClaim := { program := "ytdnjjodjglikjaa", sum := "22eea5c250f48a87ce80cb42b68de7e5cf7912d12276ed4deb8e90c1c37d437f", func := "variorum/variorumlaw15.SessionPlays", spec := "sessionPlays", unfollowed := true, recurses := true, apart := false }
def SessionPlaysSaid : Prop := sessionPlaysRow.holds Try.pinned (OpenSpec.ofChange sessionPlaysSpec)

/-- ITS FALSE NEIGHBOUR: 'it returns false'. Refute it at one input. -/
def sessionPlaysWrong : ChangeSpec := { name := "sessionPlays", fn := fun _ => fun
  | [d1, d2, d3, d4] => { results := [.lit (.bool false)], args := [d1, d2, d3, d4] }
  | _ => none }
def SessionPlaysWrongFalsely : Prop := sessionPlaysRow.holds Try.pinned (OpenSpec.ofChange sessionPlaysWrong)

/-- 'variorumlaw15.SessionEpochs': WHATEVER THE INPUT: true; the input reads as it did. -/
def sessionEpochsSpec : ChangeSpec := { name := "sessionEpochs", fn := fun _ => fun
  | [d1, d2, d3, d4] => { results := [.lit (.bool true)], args := [d1, d2, d3, d4] }
  | _ => none }
def sessionEpochsRow : OpenClaim := { program := "ytdnjjodjglikjaa", sum := "22eea5c250f48a87ce80cb42b68de7e5cf7912d12276ed4deb8e90c1c37d437f", func := "variorum/variorumlaw15.SessionEpochs", spec := "sessionEpochs", unfollowed := true, recurses := true, apart := false }
def SessionEpochsSaid : Prop := sessionEpochsRow.holds Try.pinned (OpenSpec.ofChange sessionEpochsSpec)

/-- ITS FALSE NEIGHBOUR: 'it returns false'. Refute it at one input. -/
def sessionEpochsWrong : ChangeSpec := { name := "sessionEpochs", fn := fun _ => fun
  | [d1, d2, d3, d4] => { results := [.lit (.bool false)], args := [d1, d2, d3, d4] }
  | _ => none }
def SessionEpochsWrongFalsely : Prop := sessionEpochsRow.holds Try.pinned (OpenSpec.ofChange sessionEpochsWrong)

/-- 'variorumlaw15.SessionNobody': WHATEVER THE INPUT: true; the input reads as it did. -/
def sessionNobodySpec : ChangeSpec := { name := "sessionNobody", fn := fun _ => fun
  | [d1, d2] => { results := [.lit (.bool true)], args := [d1, d2] }
  | _ => none }
def sessionNobodyRow : OpenClaim := { program := "ytdnjjodjglikjaa", sum := "22eea5c250f48a87ce80cb42b68de7e5cf7912d12276ed4deb8e90c1c37d437f", func := "variorum/variorumlaw15.SessionNobody", spec := "sessionNobody", unfollowed := true, recurses := true, apart := false }
def SessionNobodySaid : Prop := sessionNobodyRow.holds Try.pinned (OpenSpec.ofChange sessionNobodySpec)

/-- ITS FALSE NEIGHBOUR: 'it returns false'. Refute it at one input. -/
def sessionNobodyWrong : ChangeSpec := { name := "sessionNobody", fn := fun _ => fun
  | [d1, d2] => { results := [.lit (.bool false)], args := [d1, d2] }
  | _ => none }
def SessionNobodyWrongFalsely : Prop := sessionNobodyRow.holds Try.pinned (OpenSpec.ofChange sessionNobodyWrong)

/- THE SECOND FORM. 'bulk': how many values and letters a reading holds, each counted each time it is reached (what is shared counts as often as it is met; a slice's spare places count too). A statement '..UptoSaid' is the law's where the arguments, and the package variables that the reading takes, are together of bulk at most 1048576: NARROWER than '..Said'. Prove '..Said' where nothing that the law and all that it calls make is longer than what came in: it says more and counts as full. Else prove '..UptoSaid'. A law counts once. -/
mutual
def uptoBulk {H : Type} : DataW H → Nat
  | .lit (.string bytes) => bytes.length + 1
  | .lit _ => 1
  | .nil => 1
  | .ptr d => uptoBulk d + 1
  | .slice elems spare => uptoBulkAll elems + uptoBulkAll spare + 1
  | .agg parts => uptoBulkAll parts + 1
  | .iface _ d => uptoBulk d + 1
  | .map entries => uptoBulkEntries entries + 1
  | .held _ => 1
def uptoBulkAll {H : Type} : List (DataW H) → Nat
  | [] => 0
  | d :: r => uptoBulk d + uptoBulkAll r
def uptoBulkEntries {H : Type} : List (Lit × DataW H) → Nat
  | [] => 0
  | x :: r => uptoBulkEntry x + uptoBulkEntries r
def uptoBulkEntry {H : Type} : Lit × DataW H → Nat
  | (.string bytes, d) => bytes.length + uptoBulk d + 1
  | (_, d) => uptoBulk d + 1
 end
def uptoSmall : (H : Type) → List (DataW H) → Bool := fun _ ds => decide (uptoBulkAll ds ≤ 1048576)
def OpenSpec.upto (s : _root_.Go.ChangeSpec) : _root_.Go.OpenSpec := { _root_.Go.OpenSpec.ofChange s with cond := some uptoSmall }

/-- 'variorumlaw14.WindowNobody', WHERE WHAT IT READS IS OF BULK AT MOST 1048576: true; the input reads as it did. -/
def windowNobodyUptoRow : OpenClaim := { program := "ytdnjjodjglikjaa", sum := "22eea5c250f48a87ce80cb42b68de7e5cf7912d12276ed4deb8e90c1c37d437f", func := "variorum/variorumlaw14.WindowNobody", spec := "windowNobody", unfollowed := true, recurses := true, apart := false, narrowed := true }
def WindowNobodyUptoSaid : Prop := windowNobodyUptoRow.holds Try.pinned (OpenSpec.upto windowNobodySpec)

/-- 'variorumlaw14.WindowPlays', WHERE WHAT IT READS IS OF BULK AT MOST 1048576: true; the input reads as it did. -/
def windowPlaysUptoRow : OpenClaim := { program := "ytdnjjodjglikjaa", sum := "22eea5c250f48a87ce80cb42b68de7e5cf7912d12276ed4deb8e90c1c37d437f", func := "variorum/variorumlaw14.WindowPlays", spec := "windowPlays", unfollowed := true, recurses := true, apart := false, narrowed := true }
def WindowPlaysUptoSaid : Prop := windowPlaysUptoRow.holds Try.pinned (OpenSpec.upto windowPlaysSpec)

/-- 'variorumlaw14.WindowOnce', WHERE WHAT IT READS IS OF BULK AT MOST 1048576: true; the input reads as it did. -/
def windowOnceUptoRow : OpenClaim := { program := "ytdnjjodjglikjaa", sum := "22eea5c250f48a87ce80cb42b68de7e5cf7912d12276ed4deb8e90c1c37d437f", func := "variorum/variorumlaw14.WindowOnce", spec := "windowOnce", unfollowed := true, recurses := true, apart := false, narrowed := true }
def WindowOnceUptoSaid : Prop := windowOnceUptoRow.holds Try.pinned (OpenSpec.upto windowOnceSpec)

/-- 'variorumlaw15.SessionOnce', WHERE WHAT IT READS IS OF BULK AT MOST 1048576: true; the input reads as it did. -/
def sessionOnceUptoRow : OpenClaim := { program := "ytdnjjodjglikjaa", sum := "22eea5c250f48a87ce80cb42b68de7e5cf7912d12276ed4deb8e90c1c37d437f", func := "variorum/variorumlaw15.SessionOnce", spec := "sessionOnce", unfollowed := true, recurses := true, apart := false, narrowed := true }
def SessionOnceUptoSaid : Prop := sessionOnceUptoRow.holds Try.pinned (OpenSpec.upto sessionOnceSpec)

/-- 'variorumlaw15.SessionAll', WHERE WHAT IT READS IS OF BULK AT MOST 1048576: true; the input reads as it did. -/
def sessionAllUptoRow : OpenClaim := { program := "ytdnjjodjglikjaa", sum := "22eea5c250f48a87ce80cb42b68de7e5cf7912d12276ed4deb8e90c1c37d437f", func := "variorum/variorumlaw15.SessionAll", spec := "sessionAll", unfollowed := true, recurses := true, apart := false, narrowed := true }
def SessionAllUptoSaid : Prop := sessionAllUptoRow.holds Try.pinned (OpenSpec.upto sessionAllSpec)

/-- 'variorumlaw15.SessionPlays', WHERE WHAT IT READS IS OF BULK AT MOST 1048576: true; the input reads as it did. -/
def sessionPlaysUptoRow : OpenClaim := { program := "ytdnjjodjglikjaa", sum := "22eea5c250f48a87ce80cb42b68de7e5cf7912d12276ed4deb8e90c1c37d437f", func := "variorum/variorumlaw15.SessionPlays", spec := "sessionPlays", unfollowed := true, recurses := true, apart := false, narrowed := true }
def SessionPlaysUptoSaid : Prop := sessionPlaysUptoRow.holds Try.pinned (OpenSpec.upto sessionPlaysSpec)

/-- 'variorumlaw15.SessionEpochs', WHERE WHAT IT READS IS OF BULK AT MOST 1048576: true; the input reads as it did. -/
def sessionEpochsUptoRow : OpenClaim := { program := "ytdnjjodjglikjaa", sum := "22eea5c250f48a87ce80cb42b68de7e5cf7912d12276ed4deb8e90c1c37d437f", func := "variorum/variorumlaw15.SessionEpochs", spec := "sessionEpochs", unfollowed := true, recurses := true, apart := false, narrowed := true }
def SessionEpochsUptoSaid : Prop := sessionEpochsUptoRow.holds Try.pinned (OpenSpec.upto sessionEpochsSpec)

/-- 'variorumlaw15.SessionNobody', WHERE WHAT IT READS IS OF BULK AT MOST 1048576: true; the input reads as it did. -/
def sessionNobodyUptoRow : OpenClaim := { program := "ytdnjjodjglikjaa", sum := "22eea5c250f48a87ce80cb42b68de7e5cf7912d12276ed4deb8e90c1c37d437f", func := "variorum/variorumlaw15.SessionNobody", spec := "sessionNobody", unfollowed := true, recurses := true, apart := false, narrowed := true }
def SessionNobodyUptoSaid : Prop := sessionNobodyUptoRow.holds Try.pinned (OpenSpec.upto sessionNobodySpec)

end Rows
end Go.Proofs.Ytdnjjodjglikjaa
