/- The row LettersWords: the call hands back true at every input, and the input reads behind it as it did. No conditions. -/
import Derived.Test.YtdblkhijcijgbaaRows
import Derived.Test.YtdblkhijcijgbaaLg
import Derived.Test.YtdblkhijcijgbaaSLLift
namespace Go.Proofs.Ytdblkhijcijgbaa
open Go Go.SL Go.ChangeMaps Go.ChangeShapes Go.WideShapes Go.ChangeAt Go.RowKit

set_option maxRecDepth 100000 in
theorem lettersWords_lifted (os : Os) (started : os.Started) (H : Type) (enc : TypeId × Value → H) :
    ReturnsInHanded {} Try.checked os 5 .any (Rows.lettersWordsSpec.pre6 enc Try.prog Try.f5 Rows.lettersWordsRow.domain false) (Rows.lettersWordsSpec.post enc Try.prog Try.f5 false true false false) := by
  have ownK : ownKnob Try.prog.godebug = none := by kernel_rfl
  have laidO : laidOutB Try.prog = true := by kernel_rfl
  refine lifted (tb := 4) (C := Try.checked) ownK started (by kernel_rfl) Try.func5
    (ChangeSpec.witness6 (enc := enc) (C := Try.checked) false ⟨#[], #[.int .i64 0], []⟩ 8 (by kernel_rfl) (by kernel_rfl) (by kernel_rfl) (by kernel_rfl)) laidO (by kernel_rfl) rfl rfl rfl ?_ ?_
  · intro ds hl
    match ds, hl with
    | [d0], _ => exact ⟨rfl, rfl, rfl⟩
  · intro W base args ds ps hval hA hsz
    have hA : DataW.TrodAll enc Try.prog W 0 (fun _ => true) true [3] args.toList ds ps := hA
    obtain ⟨v0, d0, rfl, rfl, h0⟩ := trodAll_one hA
    obtain ⟨n0, rfl, rfl, rfl, w0⟩ := open_int rfl (hval 0 3 v0 rfl rfl) h0
    exact (lettersWords n0).law (fun _ => rfl)
theorem lettersWords_holds : Rows.LettersWordsSaid :=
  OpenClaim.holds_of_wide 5 Try.f5 rfl rfl rfl rfl rfl rfl rfl ⟨rfl, rfl, rfl, rfl, rfl⟩ rfl rfl rfl rfl rfl (by kernel_rfl) Try.func5 (by kernel_rfl)
    (of_decide_eq_true (by kernel_rfl)) (by unfold Func.isWrapper; rw [if_neg (by decide +kernel)]; exact ⟨rfl, rfl⟩)
    (fun os started H enc _ => lettersWords_lifted os started H enc)
#print axioms lettersWords_holds
end Go.Proofs.Ytdblkhijcijgbaa
