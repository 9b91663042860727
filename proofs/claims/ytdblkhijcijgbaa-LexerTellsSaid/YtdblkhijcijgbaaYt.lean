/- The row LexerTells: the call hands back true at every input, and the input reads behind it as it did. No conditions. -/
import Derived.Test.YtdblkhijcijgbaaRows
import Derived.Test.YtdblkhijcijgbaaXl
import Derived.Test.YtdblkhijcijgbaaXm
import Derived.Test.YtdblkhijcijgbaaSLArg
namespace Go.Proofs.Ytdblkhijcijgbaa
open Go Go.SL Go.ChangeMaps Go.ChangeShapes Go.WideShapes Go.ChangeAt Go.RowKit

set_option maxRecDepth 100000 in
theorem lexerTells_lifted (os : Os) (started : os.Started) (H : Type) (enc : TypeId × Value → H) :
    ReturnsInHanded {} Try.checked os 8 .any (Rows.lexerTellsSpec.pre6 enc Try.prog Try.f8 Rows.lexerTellsRow.domain false) (Rows.lexerTellsSpec.post enc Try.prog Try.f8 false true false false) := by
  have ownK : ownKnob Try.prog.godebug = none := by kernel_rfl
  have laidO : laidOutB Try.prog = true := by kernel_rfl
  refine lifted (tb := 4) (C := Try.checked) ownK started (by kernel_rfl) Try.func8
    (ChangeSpec.witness6 (enc := enc) (C := Try.checked) false ⟨#[], #[.string ⟨#[]⟩, .slice none 0 0, .string ⟨#[]⟩], []⟩ 8 (by kernel_rfl) (by kernel_rfl) (by kernel_rfl) (by kernel_rfl)) laidO (by kernel_rfl) rfl rfl rfl ?_ ?_
  · intro ds hl
    match ds, hl with
    | [d0, d1, d2], _ => exact ⟨rfl, rfl, rfl⟩
  · intro W base args ds ps hval hA hsz
    have hA : DataW.TrodAll enc Try.prog W 0 (fun _ => true) true [9, 32, 9] args.toList ds ps := hA
    obtain ⟨v0, v1, v2, d0, d1, d2, p0, p1, p2, rfl, rfl, rfl, h0, h1, h2⟩ := trodAll_three hA
    obtain ⟨s0, rfl, rfl, rfl, w0⟩ := open_string rfl (hval 0 9 v0 rfl rfl) h0
    obtain ⟨x1, q1, l1, s1⟩ := open_arr encT rfl opnTok (by kernel_rfl) (hval 1 32 v1 rfl rfl) h1
    obtain ⟨s2, rfl, rfl, rfl, w2⟩ := open_string rfl (hval 2 9 v2 rfl rfl) h2
    exact (lexerTells s0 v1 x1 s2).law (sat_cons s1 sat_nil)
theorem lexerTells_holds : Rows.LexerTellsSaid :=
  OpenClaim.holds_of_wide 8 Try.f8 rfl rfl rfl rfl rfl rfl rfl ⟨rfl, rfl, rfl, rfl, rfl⟩ rfl rfl rfl rfl rfl (by kernel_rfl) Try.func8 (by kernel_rfl)
    (of_decide_eq_true (by kernel_rfl)) (by unfold Func.isWrapper; rw [if_neg (by decide +kernel)]; exact ⟨rfl, rfl⟩)
    (fun os started H enc _ => lexerTells_lifted os started H enc)
#print axioms lexerTells_holds
end Go.Proofs.Ytdblkhijcijgbaa
