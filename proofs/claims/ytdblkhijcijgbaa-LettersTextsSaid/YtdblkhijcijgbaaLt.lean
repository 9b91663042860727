/- The row LettersTexts: whether any text is a word, a name, and its sign, is as the document says. No conditions. -/
import Derived.Test.YtdblkhijcijgbaaRows
import Derived.Test.YtdblkhijcijgbaaLe
import Derived.Test.YtdblkhijcijgbaaSLLift
namespace Go.Proofs.Ytdblkhijcijgbaa
open Go Go.SL Go.ChangeMaps Go.ChangeShapes Go.WideShapes Go.ChangeAt Go.RowKit

theorem ownK : ownKnob Try.prog.godebug = none := by kernel_rfl
theorem laidO : laidOutB Try.prog = true := by kernel_rfl
set_option maxRecDepth 100000 in
theorem lettersTexts_lifted (os : Os) (started : os.Started) (H : Type) (enc : TypeId × Value → H) :
    ReturnsInHanded {} Try.checked os 3 .any (Rows.lettersTextsSpec.pre6 enc Try.prog Try.f3 Rows.lettersTextsRow.domain false) (Rows.lettersTextsSpec.post enc Try.prog Try.f3 false true false false) := by
  refine lifted (tb := 4) (C := Try.checked) ownK started (by kernel_rfl) Try.func3
    (ChangeSpec.witness6 (enc := enc) (C := Try.checked) false ⟨#[], #[.string ⟨#[]⟩], []⟩ 8 (by kernel_rfl) (by kernel_rfl) (by kernel_rfl) (by kernel_rfl)) laidO (by kernel_rfl) rfl rfl rfl ?_ ?_
  · intro ds hl
    match ds, hl with
    | [d], _ => exact ⟨rfl, rfl, rfl⟩
  · intro W base args ds ps hval hA hsz
    have hA : DataW.TrodAll enc Try.prog W 0 (fun _ => true) true [9] args.toList ds ps := hA
    obtain ⟨v, d, rfl, rfl, h0⟩ := trodAll_one hA
    obtain ⟨s, rfl, rfl, rfl, hs⟩ := open_string rfl (hval 0 9 v rfl rfl) h0
    exact (lettersTexts s).law (fun _ => rfl)
theorem lettersTexts_holds : Rows.LettersTextsSaid :=
  OpenClaim.holds_of_wide 3 Try.f3 rfl rfl rfl rfl rfl rfl rfl ⟨rfl, rfl, rfl, rfl, rfl⟩ rfl rfl rfl rfl rfl (by kernel_rfl) Try.func3 (by kernel_rfl)
    (of_decide_eq_true (by kernel_rfl)) (by unfold Func.isWrapper; rw [if_neg (by decide +kernel)]; exact ⟨rfl, rfl⟩)
    (fun os started H enc _ => lettersTexts_lifted os started H enc)
#print axioms lettersTexts_holds
end Go.Proofs.Ytdblkhijcijgbaa
