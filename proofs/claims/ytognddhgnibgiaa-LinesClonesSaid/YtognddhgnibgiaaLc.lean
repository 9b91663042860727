/- The row LinesClones: the call hands back true at every input, and the input reads behind it as it did. No conditions. -/
import Derived.Test.YtognddhgnibgiaaRows
import Derived.Test.YtognddhgnibgiaaAo
import Derived.Test.YtognddhgnibgiaaAm
import Derived.Test.YtognddhgnibgiaaSLArg
namespace Go.Proofs.Ytognddhgnibgiaa
open Go Go.SL Go.ChangeMaps Go.ChangeShapes Go.WideShapes Go.ChangeAt Go.RowKit

set_option maxRecDepth 100000 in
theorem linesClones_lifted (os : Os) (started : os.Started) (H : Type) (enc : TypeId × Value → H) :
    ReturnsInHanded {} Try.checked os 5 .any (Rows.linesClonesSpec.pre6 enc Try.prog Try.f5 Rows.linesClonesRow.domain false) (Rows.linesClonesSpec.post enc Try.prog Try.f5 false true false false) := by
  have ownK : ownKnob Try.prog.godebug = none := by kernel_rfl
  have laidO : laidOutB Try.prog = true := by kernel_rfl
  refine lifted (tb := 4) (C := Try.checked) ownK started (by kernel_rfl) Try.func5
    (ChangeSpec.witness6 (enc := enc) (C := Try.checked) false ⟨#[], #[.string ⟨#[]⟩, .slice none 0 0, .agg ⟨[.int .i64 0, .int .i64 0, .string ⟨#[]⟩]⟩], []⟩ 8 (by kernel_rfl) (by kernel_rfl) (by kernel_rfl) (by kernel_rfl)) laidO (by kernel_rfl) rfl rfl rfl ?_ ?_
  · intro ds hl
    match ds, hl with
    | [d0, d1, d2], _ => exact ⟨rfl, rfl, rfl⟩
  · intro W base args ds ps hval hA hsz
    have hA : DataW.TrodAll enc Try.prog W 0 (fun _ => true) true [9, 22, 28] args.toList ds ps := hA
    obtain ⟨v0, v1, v2, d0, d1, d2, p0, p1, p2, rfl, rfl, rfl, h0, h1, h2⟩ := trodAll_three hA
    obtain ⟨s0, rfl, rfl, rfl, w0⟩ := open_string rfl (hval 0 9 v0 rfl rfl) h0
    obtain ⟨x1, q1, l1, s1⟩ := open_arr encStepL rfl opnStepL (by kernel_rfl) (hval 1 22 v1 rfl rfl) h1
    obtain ⟨a2, rfl, q2⟩ := open_agg rfl opnStepL (hval 2 28 v2 rfl rfl) h2
    exact (linesClones s0 v1 x1 a2).law (sat_cons s1 sat_nil)
theorem linesClones_holds : Rows.LinesClonesSaid :=
  OpenClaim.holds_of_wide 5 Try.f5 rfl rfl rfl rfl rfl rfl rfl ⟨rfl, rfl, rfl, rfl, rfl⟩ rfl rfl rfl rfl rfl (by kernel_rfl) Try.func5 (by kernel_rfl)
    (of_decide_eq_true (by kernel_rfl)) (by unfold Func.isWrapper; rw [if_neg (by decide +kernel)]; exact ⟨rfl, rfl⟩)
    (fun os started H enc _ => linesClones_lifted os started H enc)
#print axioms linesClones_holds
end Go.Proofs.Ytognddhgnibgiaa
