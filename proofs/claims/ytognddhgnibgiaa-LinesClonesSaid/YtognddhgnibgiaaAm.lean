/- How a given step of the laws of lines is opened. -/
import Derived.Test.YtognddhgnibgiaaAk
import Derived.Test.YtognddhgnibgiaaSLArg
import Derived.ChangeShapes
namespace Go.Proofs.Ytognddhgnibgiaa
open Go Go.SL Go.ChangeShapes

theorem trodAll_five {H : Type} {enc : TypeId × Value → H} {P : Program} {w : World} {base : Nat} {spare : Nat → Bool} {held : Bool} {t t1 t2 t3 t4 : TypeId} {args : Array Value} {ds : List (DataW H)} {ps : List MemPlace} (h : DataW.TrodAll enc P w base spare held [t, t1, t2, t3, t4] args.toList ds ps) :
    ∃ v v1 v2 v3 v4 d d1 d2 d3 d4 p p1 p2 p3 p4, args = #[v, v1, v2, v3, v4] ∧ ds = [d, d1, d2, d3, d4] ∧ ps = p ++ p1 ++ p2 ++ p3 ++ p4 ∧ DataW.Trod enc P w base spare held t v d p ∧ DataW.Trod enc P w base spare held t1 v1 d1 p1 ∧ DataW.Trod enc P w base spare held t2 v2 d2 p2 ∧
      DataW.Trod enc P w base spare held t3 v3 d3 p3 ∧ DataW.Trod enc P w base spare held t4 v4 d4 p4 := by
  obtain ⟨v, vs, d, ds0, p, q, e0, rfl, rfl, g0, r0⟩ := trodAll_cons h
  obtain ⟨v1, vs1, d1, ds1, p1, q1, rfl, rfl, rfl, g1, r1⟩ := trodAll_cons r0
  obtain ⟨v2, vs2, d2, ds2, p2, q2, rfl, rfl, rfl, g2, r2⟩ := trodAll_cons r1
  obtain ⟨v3, vs3, d3, ds3, p3, q3, rfl, rfl, rfl, g3, r3⟩ := trodAll_cons r2
  obtain ⟨v4, vs4, d4, ds4, p4, q4, rfl, rfl, rfl, g4, r4⟩ := trodAll_cons r3
  obtain ⟨rfl, rfl, rfl⟩ := trodAll_nil r4
  exact ⟨v, v1, v2, v3, v4, d, d1, d2, d3, d4, p, p1, p2, p3, p4, by cases args; simp_all, rfl, by simp, g0, g1, g2, g3, g4⟩
theorem opnStepL : Opn Try.prog 28 encStepL.f (fun _ => True) := by
  refine Opn.as (Opn.struct (P := Try.prog) (t := 28) (fs := _) rfl ?_ ?_ (OpnF.cons (Opn.int ?_) (OpnF.cons (Opn.int ?_) (OpnF.cons (Opn.str ?_) OpnF.nil)))) (fun a => (a.1, a.2.1, a.2.2.1)) (fun _ => rfl) (fun _ _ => trivial)
  all_goals rfl
end Go.Proofs.Ytognddhgnibgiaa
