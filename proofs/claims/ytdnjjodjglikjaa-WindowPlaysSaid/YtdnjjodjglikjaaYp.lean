/- The row WindowPlays: the call hands back true at every input, and the input reads behind it as it did. No conditions. -/
import Derived.Test.YtdnjjodjglikjaaRows
import Derived.Test.YtdnjjodjglikjaaWh
import Derived.Test.YtdnjjodjglikjaaWi
import Derived.Test.YtdnjjodjglikjaaSLArg
namespace Go.Proofs.Ytdnjjodjglikjaa
open Go Go.SL Go.ChangeMaps Go.ChangeShapes Go.WideShapes Go.ChangeAt Go.RowKit

set_option maxRecDepth 100000 in
theorem windowPlays_lifted (os : Os) (started : os.Started) (H : Type) (enc : TypeId × Value → H) :
    ReturnsInHanded {} Try.checked os 4 .any (Rows.windowPlaysSpec.pre6 enc Try.prog Try.f4 Rows.windowPlaysRow.domain false) (Rows.windowPlaysSpec.post enc Try.prog Try.f4 false true false false) := by
  have ownK : ownKnob Try.prog.godebug = none := by kernel_rfl
  have laidO : laidOutB Try.prog = true := by kernel_rfl
  refine lifted (tb := 4) (C := Try.checked) ownK started (by kernel_rfl) Try.func4
    (ChangeSpec.witness6 (enc := enc) (C := Try.checked) false ⟨#[], #[.int .i64 0, .slice none 0 0], []⟩ 8 (by kernel_rfl) (by kernel_rfl) (by kernel_rfl) (by kernel_rfl)) laidO (by kernel_rfl) rfl rfl rfl ?_ ?_
  · intro ds hl
    match ds, hl with
    | [d0, d1], _ => exact ⟨rfl, rfl, rfl⟩
  · intro W base args ds ps hval hA hsz
    have hA : DataW.TrodAll enc Try.prog W 0 (fun _ => true) true [3, 43] args.toList ds ps := hA
    obtain ⟨v0, v1, d0, d1, p0, p1, rfl, rfl, rfl, h0, h1⟩ := trodAll_two hA
    obtain ⟨n0, rfl, rfl, rfl, w0⟩ := open_int rfl (hval 0 3 v0 rfl rfl) h0
    obtain ⟨x1, q1, l1, s1⟩ := open_arr encStepW rfl opnStepW (by kernel_rfl) (hval 1 43 v1 rfl rfl) h1
    exact (windowPlays n0 v1 x1 q1).law (sat_cons s1 sat_nil)
theorem windowPlays_holds : Rows.WindowPlaysSaid :=
  OpenClaim.holds_of_wide 4 Try.f4 rfl rfl rfl rfl rfl rfl rfl ⟨rfl, rfl, rfl, rfl, rfl⟩ rfl rfl rfl rfl rfl (by kernel_rfl) Try.func4 (by kernel_rfl)
    (of_decide_eq_true (by kernel_rfl)) (by unfold Func.isWrapper; rw [if_neg (by decide +kernel)]; exact ⟨rfl, rfl⟩)
    (fun os started H enc _ => windowPlays_lifted os started H enc)
#print axioms windowPlays_holds
end Go.Proofs.Ytdnjjodjglikjaa
