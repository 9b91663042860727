/- The row PumpNobody: the call hands back true at every input, and the input reads behind it as it did. No conditions. -/
import Derived.Test.YthcdlmjieebmkaaRows
import Derived.Test.YthcdlmjieebmkaaPf
import Derived.Test.YthcdlmjieebmkaaSLArg
namespace Go.Proofs.Ythcdlmjieebmkaa
open Go Go.SL Go.ChangeMaps Go.ChangeShapes Go.WideShapes Go.ChangeAt Go.RowKit

set_option maxRecDepth 100000 in
theorem pumpNobody_lifted (os : Os) (started : os.Started) (H : Type) (enc : TypeId × Value → H) :
    ReturnsInHanded {} Try.checked os 5 .any (Rows.pumpNobodySpec.pre6 enc Try.prog Try.f5 Rows.pumpNobodyRow.domain false) (Rows.pumpNobodySpec.post enc Try.prog Try.f5 false true false false) := by
  have ownK : ownKnob Try.prog.godebug = none := by kernel_rfl
  have laidO : laidOutB Try.prog = true := by kernel_rfl
  refine lifted (tb := 4) (C := Try.checked) ownK started (by kernel_rfl) Try.func5
    (ChangeSpec.witness6 (enc := enc) (C := Try.checked) false ⟨#[], #[.int .i64 0], []⟩ 8 (by kernel_rfl) (by kernel_rfl) (by kernel_rfl) (by kernel_rfl)) laidO (by kernel_rfl) rfl rfl rfl ?_ ?_
  · intro ds hl
    match ds, hl with
    | [d0], _ => exact ⟨rfl, rfl, rfl⟩
  · intro W base args ds ps hval hA hsz
    have hA : DataW.TrodAll enc Try.prog W 0 (fun _ => true) true [3] args.toList ds ps := hA
    obtain ⟨v0, d0, rfl, rfl, h0⟩ := trodAll_one hA
    obtain ⟨n0, rfl, rfl, rfl, w0⟩ := open_int rfl (hval 0 3 v0 rfl rfl) h0
    exact (pumpNobody n0).law sat_nil
theorem pumpNobody_holds : Rows.PumpNobodySaid :=
  OpenClaim.holds_of_wide 5 Try.f5 rfl rfl rfl rfl rfl rfl rfl ⟨rfl, rfl, rfl, rfl, rfl⟩ rfl rfl rfl rfl rfl (by kernel_rfl) Try.func5 (by kernel_rfl)
    (of_decide_eq_true (by kernel_rfl)) (by unfold Func.isWrapper; rw [if_neg (by decide +kernel)]; exact ⟨rfl, rfl⟩)
    (fun os started H enc _ => pumpNobody_lifted os started H enc)
#print axioms pumpNobody_holds
end Go.Proofs.Ythcdlmjieebmkaa
