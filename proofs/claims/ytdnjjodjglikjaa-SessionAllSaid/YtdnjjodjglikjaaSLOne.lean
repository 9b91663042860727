/- A slice that an operation makes is a single cell's value. No program is named here; the conditions stand in the rule. -/
import Derived.Test.YtdnjjodjglikjaaSLOwn4
namespace Go.SL
open Go
theorem Op1.oneOwn {c : Cx} {o : Oper} {K : List (Nat × Value)} {H H1 : List Atom} {α : Type} {E : Enc α} {e : TypeId} {ys : List α} (h : Op1 c o K H (fun v' H' => H' = SL.own E v' e ys :: H1)) :
    Op1 c o K H (fun v' H' => v'.oneCell' = true ∧ H' = SL.own E v' e ys :: H1) := by
  intro ops b a cs k rest i w hx hr ho hw hk hro hK hG
  obtain ⟨v', w', H', hx', hr', rfl, g', st, s⟩ := h ops b a cs k rest i w hx hr ho hw hk hro hK hG
  exact ⟨v', w', _, hx', hr', ⟨own_one (g'.sat.pick .here).choose_spec.choose_spec.2.1, rfl⟩, g', st, s⟩
end Go.SL
