/- The steps of the law PumpPlays, as they come in an argument. No conditions. -/
import Derived.Test.YthcdlmjieebmkaaPh
import Derived.Test.YthcdlmjieebmkaaSLArg
namespace Go.Proofs.Ythcdlmjieebmkaa
open Go Go.SL

theorem opnStep : Opn Try.prog 39 encStep.f (fun _ => True) := by
  refine Opn.as (Opn.struct (P := Try.prog) (t := 39) (fs := _) rfl ?_ ?_ (OpnF.cons (Opn.int ?_) (OpnF.cons (Opn.bool ?_) (OpnF.cons (Opn.int ?_) OpnF.nil)))) (fun a => (a.1, a.2.1, a.2.2.1)) (fun _ => rfl) (fun _ _ => trivial)
  all_goals rfl
end Go.Proofs.Ythcdlmjieebmkaa
