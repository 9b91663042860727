/- What one only reads may be told twice. -/
import Derived.Test.YtdnjjodjglikjaaSLOwn4
namespace Go.SL
open Go
theorem T.dupR {c : Cx} {td : List Item} {K : List (Nat × Value)} {H H1 : List Atom} {α : Type} {E : Enc α} {v : Value} {xs : List α} (p : Pick (rsl E v xs) H H1) (h : T c td K (rsl E v xs :: H)) : T c td K H := by
  intro b a cs w hx hr h0 h1 h2 h3 h4 h5 h6 h7
  obtain ⟨g1, g2, j, s1, s2⟩ := h7.sat.pick p
  have he : g1 = emp := funext fun k => s1.1 k
  subst he
  exact h b a cs w hx hr h0 h1 h2 h3 h4 h5 h6 ⟨⟨emp, hx, .emp_left hx, s1, h7.sat⟩, h7.own, h7.red, h7.dj⟩
end Go.SL
