/- The row LinesBack: the call hands back true at every input, and the input reads behind it as it did. No conditions. -/
import Derived.Test.YtognddhgnibgiaaRows
import Derived.Test.YtognddhgnibgiaaAn
import Derived.Test.YtognddhgnibgiaaAm
import Derived.Test.YtognddhgnibgiaaSLArg
namespace Go.Proofs.Ytognddhgnibgiaa
open Go Go.SL Go.ChangeMaps Go.ChangeShapes Go.WideShapes Go.ChangeAt Go.RowKit

set_option maxRecDepth 100000 in
theorem linesBack_lifted (os : Os) (started : os.Started) (H : Type) (enc : TypeId × Value → H) :
    ReturnsInHanded {} Try.checked os 3 .any (Rows.linesBackSpec.pre6 enc Try.prog Try.f3 Rows.linesBackRow.domain false) (Rows.linesBackSpec.post enc Try.prog Try.f3 false true false false) := by
  have ownK : ownKnob Try.prog.godebug = none := by kernel_rfl
  have laidO : laidOutB Try.prog = true := by kernel_rfl
  refine lifted (tb := 4) (C := Try.checked) ownK started (by kernel_rfl) Try.func3
    (ChangeSpec.witness6 (enc := enc) (C := Try.checked) false ⟨#[], #[.string ⟨#[]⟩, .slice none 0 0], []⟩ 8 (by kernel_rfl) (by kernel_rfl) (by kernel_rfl) (by kernel_rfl)) laidO (by kernel_rfl) rfl rfl rfl ?_ ?_
  · intro ds hl
    match ds, hl with
    | [d0, d1], _ => exact ⟨rfl, rfl, rfl⟩
  · intro W base args ds ps hval hA hsz
    have hA : DataW.TrodAll enc Try.prog W 0 (fun _ => true) true [9, 22] args.toList ds ps := hA
    obtain ⟨v0, v1, d0, d1, p0, p1, rfl, rfl, rfl, h0, h1⟩ := trodAll_two hA
    obtain ⟨s0, rfl, rfl, rfl, w0⟩ := open_string rfl (hval 0 9 v0 rfl rfl) h0
    obtain ⟨x1, q1, l1, s1⟩ := open_arr encStepL rfl opnStepL (by kernel_rfl) (hval 1 22 v1 rfl rfl) h1
    exact (linesBack s0 v1 x1).law (sat_cons s1 sat_nil)
theorem linesBack_holds : Rows.LinesBackSaid :=
  OpenClaim.holds_of_wide 3 Try.f3 rfl rfl rfl rfl rfl rfl rfl ⟨rfl, rfl, rfl, rfl, rfl⟩ rfl rfl rfl rfl rfl (by kernel_rfl) Try.func3 (by kernel_rfl)
    (of_decide_eq_true (by kernel_rfl)) (by unfold Func.isWrapper; rw [if_neg (by decide +kernel)]; exact ⟨rfl, rfl⟩)
    (fun os started H enc _ => linesBack_lifted os started H enc)
#print axioms linesBack_holds
end Go.Proofs.Ytognddhgnibgiaa
