/- The row JournalSince: the call hands back true at every input, and the input reads behind it as it did. No conditions. -/
import Derived.Test.YtnenpnifhdmmjaaRows
import Derived.Test.YtnenpnifhdmmjaaJe
import Derived.Test.YtnenpnifhdmmjaaSLArg
namespace Go.Proofs.Ytnenpnifhdmmjaa
open Go Go.SL Go.ChangeMaps Go.ChangeShapes Go.WideShapes Go.ChangeAt Go.RowKit

set_option maxRecDepth 100000 in
theorem journalSince_lifted (os : Os) (started : os.Started) (H : Type) (enc : TypeId × Value → H) :
    ReturnsInHanded {} Try.checked os 7 .any (Rows.journalSinceSpec.pre6 enc Try.prog Try.f7 Rows.journalSinceRow.domain false) (Rows.journalSinceSpec.post enc Try.prog Try.f7 false true false false) := by
  have ownK : ownKnob Try.prog.godebug = none := by kernel_rfl
  have laidO : laidOutB Try.prog = true := by kernel_rfl
  refine lifted (tb := 4) (C := Try.checked) ownK started (by kernel_rfl) Try.func7
    (ChangeSpec.witness6 (enc := enc) (C := Try.checked) false ⟨#[], #[.int .i64 0, .slice none 0 0, .int .i64 0], []⟩ 8 (by kernel_rfl) (by kernel_rfl) (by kernel_rfl) (by kernel_rfl)) laidO (by kernel_rfl) rfl rfl rfl ?_ ?_
  · intro ds hl
    match ds, hl with
    | [d0, d1, d2], _ => exact ⟨rfl, rfl, rfl⟩
  · intro W base args ds ps hval hA hsz
    have hA : DataW.TrodAll enc Try.prog W 0 (fun _ => true) true [3, 22, 3] args.toList ds ps := hA
    obtain ⟨v0, v1, v2, d0, d1, d2, p0, p1, p2, rfl, rfl, rfl, h0, h1, h2⟩ := trodAll_three hA
    obtain ⟨n0, rfl, rfl, rfl, w0⟩ := open_int rfl (hval 0 3 v0 rfl rfl) h0
    obtain ⟨x1, q1, l1, s1⟩ := open_arr encS rfl (Opn.str rfl) (by kernel_rfl) (hval 1 22 v1 rfl rfl) h1
    obtain ⟨n2, rfl, rfl, rfl, w2⟩ := open_int rfl (hval 2 3 v2 rfl rfl) h2
    exact (journalSince n0 v1 x1 n2).law (sat_cons s1 sat_nil)
theorem journalSince_holds : Rows.JournalSinceSaid :=
  OpenClaim.holds_of_wide 7 Try.f7 rfl rfl rfl rfl rfl rfl rfl ⟨rfl, rfl, rfl, rfl, rfl⟩ rfl rfl rfl rfl rfl (by kernel_rfl) Try.func7 (by kernel_rfl)
    (of_decide_eq_true (by kernel_rfl)) (by unfold Func.isWrapper; rw [if_neg (by decide +kernel)]; exact ⟨rfl, rfl⟩)
    (fun os started H enc _ => journalSince_lifted os started H enc)
#print axioms journalSince_holds
end Go.Proofs.Ytnenpnifhdmmjaa
