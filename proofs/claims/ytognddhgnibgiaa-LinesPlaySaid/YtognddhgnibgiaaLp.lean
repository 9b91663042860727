/- The row LinesPlay: the call hands back true at every input, and the input reads behind it as it did. No conditions. -/
import Derived.Test.YtognddhgnibgiaaRows
import Derived.Test.YtognddhgnibgiaaAl
import Derived.Test.YtognddhgnibgiaaAm
import Derived.Test.YtognddhgnibgiaaSLArg
namespace Go.Proofs.Ytognddhgnibgiaa
open Go Go.SL Go.ChangeMaps Go.ChangeShapes Go.WideShapes Go.ChangeAt Go.RowKit

set_option maxRecDepth 100000 in
theorem linesPlay_lifted (os : Os) (started : os.Started) (H : Type) (enc : TypeId × Value → H) :
    ReturnsInHanded {} Try.checked os 4 .any (Rows.linesPlaySpec.pre6 enc Try.prog Try.f4 Rows.linesPlayRow.domain false) (Rows.linesPlaySpec.post enc Try.prog Try.f4 false true false false) := by
  have ownK : ownKnob Try.prog.godebug = none := by kernel_rfl
  have laidO : laidOutB Try.prog = true := by kernel_rfl
  refine lifted (tb := 4) (C := Try.checked) ownK started (by kernel_rfl) Try.func4
    (ChangeSpec.witness6 (enc := enc) (C := Try.checked) false ⟨#[], #[.string ⟨#[]⟩, .slice none 0 0, .int .i64 0, .int .i64 0, .int .i64 0], []⟩ 8 (by kernel_rfl) (by kernel_rfl) (by kernel_rfl) (by kernel_rfl)) laidO (by kernel_rfl) rfl rfl rfl ?_ ?_
  · intro ds hl
    match ds, hl with
    | [d0, d1, d2, d3, d4], _ => exact ⟨rfl, rfl, rfl⟩
  · intro W base args ds ps hval hA hsz
    have hA : DataW.TrodAll enc Try.prog W 0 (fun _ => true) true [9, 22, 3, 3, 3] args.toList ds ps := hA
    obtain ⟨v0, v1, v2, v3, v4, d0, d1, d2, d3, d4, p0, p1, p2, p3, p4, rfl, rfl, rfl, h0, h1, h2, h3, h4⟩ := trodAll_five hA
    obtain ⟨s0, rfl, rfl, rfl, w0⟩ := open_string rfl (hval 0 9 v0 rfl rfl) h0
    obtain ⟨x1, q1, l1, s1⟩ := open_arr encStepL rfl opnStepL (by kernel_rfl) (hval 1 22 v1 rfl rfl) h1
    obtain ⟨n2, rfl, rfl, rfl, w2⟩ := open_int rfl (hval 2 3 v2 rfl rfl) h2
    obtain ⟨n3, rfl, rfl, rfl, w3⟩ := open_int rfl (hval 3 3 v3 rfl rfl) h3
    obtain ⟨n4, rfl, rfl, rfl, w4⟩ := open_int rfl (hval 4 3 v4 rfl rfl) h4
    exact (linesPlay s0 v1 x1 n2 n3 n4).law (sat_cons s1 sat_nil)
theorem linesPlay_holds : Rows.LinesPlaySaid :=
  OpenClaim.holds_of_wide 4 Try.f4 rfl rfl rfl rfl rfl rfl rfl ⟨rfl, rfl, rfl, rfl, rfl⟩ rfl rfl rfl rfl rfl (by kernel_rfl) Try.func4 (by kernel_rfl)
    (of_decide_eq_true (by kernel_rfl)) (by unfold Func.isWrapper; rw [if_neg (by decide +kernel)]; exact ⟨rfl, rfl⟩)
    (fun os started H enc _ => linesPlay_lifted os started H enc)
#print axioms linesPlay_holds
end Go.Proofs.Ytognddhgnibgiaa
