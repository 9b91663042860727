/- The steps of the law RingPlays, as they come in an argument. No conditions. -/
import Derived.Test.YtnenpnifhdmmjaaRl
import Derived.Test.YtnenpnifhdmmjaaSLArg
namespace Go.Proofs.Ytnenpnifhdmmjaa
open Go Go.SL

theorem opnStep3 : Opn Try.prog 40 encStep3.f (fun _ => True) := by
  refine Opn.as (Opn.struct (P := Try.prog) (t := 40) (fs := _) rfl ?_ ?_ (OpnF.cons (Opn.int ?_) (OpnF.cons (Opn.int ?_) (OpnF.cons (Opn.int ?_) OpnF.nil)))) (fun a => (a.1, a.2.1, a.2.2.1)) (fun _ => rfl) (fun _ _ => trivial)
  all_goals rfl
end Go.Proofs.Ytnenpnifhdmmjaa
