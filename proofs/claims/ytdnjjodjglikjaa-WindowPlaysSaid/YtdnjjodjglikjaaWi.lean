/- What a step of the windows reads as, as an argument. -/
import Derived.Test.YtdnjjodjglikjaaWh
namespace Go.Proofs.Ytdnjjodjglikjaa
open Go Go.SL
set_option maxHeartbeats 4000000
set_option maxRecDepth 20000
set_option linter.unusedSimpArgs false
set_option linter.unusedVariables false
attribute [local irreducible] T TR Op1 Tri DT eqI ltI leI eqL own rsl pt rd elA elI

theorem opnStepW : Opn Try.prog 55 encStepW.f (fun x => InK .i64 x.2.1) := by
  refine Opn.as (Opn.struct (P := Try.prog) (t := 55) (fs := _) rfl ?_ ?_ (OpnF.cons (Opn.int (k := .i64) ?_) (OpnF.cons (Opn.int (k := .i64) ?_) (OpnF.cons (Opn.str ?_) OpnF.nil)))) (fun a => (a.1, a.2.1, a.2.2.1)) (fun _ => rfl) (fun _ q => q.2.1)
  all_goals rfl
end Go.Proofs.Ytdnjjodjglikjaa
