/- The steps of the law JournalPlays, as they come in an argument. No conditions. -/
import Derived.Test.YtnenpnifhdmmjaaJd
import Derived.Test.YtnenpnifhdmmjaaSLArg
namespace Go.Proofs.Ytnenpnifhdmmjaa
open Go Go.SL

theorem opnStepJ : Opn Try.prog 63 encStepJ.f (fun _ => True) := by
  refine Opn.as (Opn.struct (P := Try.prog) (t := 63) (fs := _) rfl ?_ ?_ (OpnF.cons (Opn.bool ?_) (OpnF.cons (Opn.int ?_) (OpnF.cons (Opn.str ?_) OpnF.nil)))) (fun a => (a.1, a.2.1, a.2.2.1)) (fun _ => rfl) (fun _ _ => trivial)
  all_goals rfl
end Go.Proofs.Ytnenpnifhdmmjaa
