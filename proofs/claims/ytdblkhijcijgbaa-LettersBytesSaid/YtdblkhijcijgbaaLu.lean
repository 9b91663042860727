/- The row LettersBytes: the call hands back true at every input, and the input reads behind it as it did. No conditions. -/
import Derived.Test.YtdblkhijcijgbaaRows
import Derived.Test.YtdblkhijcijgbaaLc
import Derived.Test.YtdblkhijcijgbaaLf
import Derived.Test.YtdblkhijcijgbaaSLLift
namespace Go.Proofs.Ytdblkhijcijgbaa
open Go Go.SL Go.ChangeMaps Go.ChangeShapes Go.WideShapes Go.ChangeAt Go.RowKit

set_option maxRecDepth 100000 in
theorem lettersBytes_lifted (os : Os) (started : os.Started) (H : Type) (enc : TypeId × Value → H) :
    ReturnsInHanded {} Try.checked os 4 .any (Rows.lettersBytesSpec.pre6 enc Try.prog Try.f4 Rows.lettersBytesRow.domain false) (Rows.lettersBytesSpec.post enc Try.prog Try.f4 false true false false) := by
  have ownK : ownKnob Try.prog.godebug = none := by kernel_rfl
  have laidO : laidOutB Try.prog = true := by kernel_rfl
  refine lifted (tb := 4) (C := Try.checked) ownK started (by kernel_rfl) Try.func4
    (ChangeSpec.witness6 (enc := enc) (C := Try.checked) false ⟨#[], #[.int .u8 0], []⟩ 8 (by kernel_rfl) (by kernel_rfl) (by kernel_rfl) (by kernel_rfl)) laidO (by kernel_rfl) rfl rfl rfl ?_ ?_
  · intro ds hl
    match ds, hl with
    | [d0], _ => exact ⟨rfl, rfl, rfl⟩
  · intro W base args ds ps hval hA hsz
    have hA : DataW.TrodAll enc Try.prog W 0 (fun _ => true) true [5] args.toList ds ps := hA
    obtain ⟨v0, d0, rfl, rfl, h0⟩ := trodAll_one hA
    obtain ⟨n0, rfl, rfl, rfl, w0⟩ := open_int rfl (hval 0 5 v0 rfl rfl) h0
    have e0 : 0 ≤ n0 ∧ n0 < 256 := by
      simp [Lit.wf, IntKind.min, IntKind.max, IntKind.signed, IntKind.bits] at w0
      omega
    obtain ⟨b0, rfl⟩ := nat_int e0.1 e0.2
    exact (lettersBytes b0).law (fun _ => rfl)
theorem lettersBytes_holds : Rows.LettersBytesSaid :=
  OpenClaim.holds_of_wide 4 Try.f4 rfl rfl rfl rfl rfl rfl rfl ⟨rfl, rfl, rfl, rfl, rfl⟩ rfl rfl rfl rfl rfl (by kernel_rfl) Try.func4 (by kernel_rfl)
    (of_decide_eq_true (by kernel_rfl)) (by unfold Func.isWrapper; rw [if_neg (by decide +kernel)]; exact ⟨rfl, rfl⟩)
    (fun os started H enc _ => lettersBytes_lifted os started H enc)
#print axioms lettersBytes_holds
end Go.Proofs.Ytdblkhijcijgbaa
