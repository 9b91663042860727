/- The steps of the law SessionPlays as the harness opens them. -/
import Derived.Test.YtdnjjodjglikjaaSj
import Derived.Test.YtdnjjodjglikjaaSl
import Derived.Test.YtdnjjodjglikjaaSLLift
namespace Go.Proofs.Ytdnjjodjglikjaa
open Go Go.SL
set_option maxHeartbeats 4000000
set_option maxRecDepth 20000
set_option linter.unusedSimpArgs false
set_option linter.unusedVariables false
attribute [local irreducible] T TR Op1 Tri DT eqI ltI leI eqL own rsl pt rd elA elI
theorem opnStepP : Opn Try.prog 89 encStepP.f (fun _ => True) := by
  refine @Opn.as Try.prog 89 _ _ _ _ encStepP.f (fun _ => True) (Opn.struct (P := Try.prog) (t := 89) (fs := _) rfl ?_ ?_ (OpnF.cons (Opn.int (k := .i64) ?_) (OpnF.cons (Opn.int (k := .i64) ?_) (OpnF.cons (Opn.str ?_) (OpnF.cons opnPk OpnF.nil))))) (fun a => (a.1, a.2.1, a.2.2.1, a.2.2.2.1)) (fun _ => rfl) (fun _ _ => trivial)
  all_goals rfl
end Go.Proofs.Ytdnjjodjglikjaa
