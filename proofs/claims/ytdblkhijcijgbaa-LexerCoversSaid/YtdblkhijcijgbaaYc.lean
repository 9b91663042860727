/- The row LexerCovers: the call hands back true at every input, and the input reads behind it as it did. No conditions. -/
import Derived.Test.YtdblkhijcijgbaaRows
import Derived.Test.YtdblkhijcijgbaaXi
import Derived.Test.YtdblkhijcijgbaaSLArg
namespace Go.Proofs.Ytdblkhijcijgbaa
open Go Go.SL Go.ChangeMaps Go.ChangeShapes Go.WideShapes Go.ChangeAt Go.RowKit

set_option maxRecDepth 100000 in
theorem lexerCovers_lifted (os : Os) (started : os.Started) (H : Type) (enc : TypeId × Value → H) :
    ReturnsInHanded {} Try.checked os 6 .any (Rows.lexerCoversSpec.pre6 enc Try.prog Try.f6 Rows.lexerCoversRow.domain false) (Rows.lexerCoversSpec.post enc Try.prog Try.f6 false true false false) := by
  have ownK : ownKnob Try.prog.godebug = none := by kernel_rfl
  have laidO : laidOutB Try.prog = true := by kernel_rfl
  refine lifted (tb := 4) (C := Try.checked) ownK started (by kernel_rfl) Try.func6
    (ChangeSpec.witness6 (enc := enc) (C := Try.checked) false ⟨#[], #[.string ⟨#[]⟩], []⟩ 8 (by kernel_rfl) (by kernel_rfl) (by kernel_rfl) (by kernel_rfl)) laidO (by kernel_rfl) rfl rfl rfl ?_ ?_
  · intro ds hl
    match ds, hl with
    | [d0], _ => exact ⟨rfl, rfl, rfl⟩
  · intro W base args ds ps hval hA hsz
    have hA : DataW.TrodAll enc Try.prog W 0 (fun _ => true) true [9] args.toList ds ps := hA
    obtain ⟨v0, d0, rfl, rfl, h0⟩ := trodAll_one hA
    obtain ⟨s0, rfl, rfl, rfl, w0⟩ := open_string rfl (hval 0 9 v0 rfl rfl) h0
    exact (lexerCovers s0).law sat_nil
theorem lexerCovers_holds : Rows.LexerCoversSaid :=
  OpenClaim.holds_of_wide 6 Try.f6 rfl rfl rfl rfl rfl rfl rfl ⟨rfl, rfl, rfl, rfl, rfl⟩ rfl rfl rfl rfl rfl (by kernel_rfl) Try.func6 (by kernel_rfl)
    (of_decide_eq_true (by kernel_rfl)) (by unfold Func.isWrapper; rw [if_neg (by decide +kernel)]; exact ⟨rfl, rfl⟩)
    (fun os started H enc _ => lexerCovers_lifted os started H enc)
#print axioms lexerCovers_holds
end Go.Proofs.Ytdblkhijcijgbaa
