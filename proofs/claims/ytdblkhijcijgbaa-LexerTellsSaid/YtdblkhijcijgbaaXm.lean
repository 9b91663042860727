/- What a token reads as, as an argument. -/
import Derived.Test.YtdblkhijcijgbaaXe
import Derived.Test.YtdblkhijcijgbaaSLArg
namespace Go.Proofs.Ytdblkhijcijgbaa
open Go Go.SL

theorem opnTok : Opn Try.prog 37 encT.f (fun _ => True) := by
  have hs : Opn Try.prog 35 (fun a : Int × Int => [.int .i64 a.1, .int .i64 a.2]) (fun _ => True) := by
    refine Opn.as (Opn.struct (P := Try.prog) (t := 35) (fs := _) rfl ?_ ?_ (OpnF.cons (Opn.int ?_) (OpnF.cons (Opn.int ?_) OpnF.nil))) (fun a => (a.1, a.2.1)) (fun _ => rfl) (fun _ _ => trivial)
    all_goals rfl
  refine @Opn.as Try.prog 37 _ _ _ _ encT.f (fun _ => True) (Opn.struct (P := Try.prog) (t := 37) (fs := _) rfl ?_ ?_ (OpnF.cons (Opn.int ?_) (OpnF.cons hs OpnF.nil))) (fun a => (a.1, a.2.1.1, a.2.1.2)) (fun _ => rfl) (fun _ _ => trivial)
  all_goals rfl
end Go.Proofs.Ytdblkhijcijgbaa
