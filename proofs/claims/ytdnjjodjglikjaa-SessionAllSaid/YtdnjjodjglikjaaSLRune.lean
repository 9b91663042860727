/- A rune as a text: 'string(r)'. No program is named here; the conditions stand in each law. -/
import Derived.Test.YtdnjjodjglikjaaSLOne
import Derived.Laws.Runes
namespace Go.SL
open Go

variable {c : Cx} {K : List (Nat × Value)} {H : List Atom} {d : Option Tmp} {ty : TypeId} {pos : String} {af : Array Edge} {gd : Option (Nat × Bool)} {t t' : TypeId} {x : Operand}
theorem Op1.rune {k : IntKind} {m : Int} {sd : TypeDesc} (hs : c.P.underlying t = some sd) (ht : c.P.underlying t' = some .string) (hx : evK K x = some (.int k m)) :
    Op1 c ⟨d, .convert t t' x, ty, pos, af, gd⟩ K H (ret (.string (Utf8.encode m)) H) :=
  Op1.of_val (by simp) _ fun a w _ _ hK _ => by
    simp [execOp, hK.eval hx, run_convert_int_string w t t' k m (by rw [hs]; rfl) ht]
theorem rune_size (m : Int) : (Utf8.encode m).size ≤ 4 := by
  unfold Utf8.encode
  dsimp only
  generalize (if Utf8.valid m then m.toNat else Utf8.runeError) = c
  split
  · show 1 ≤ 4; omega
  split
  · show 2 ≤ 4; omega
  split
  · show 3 ≤ 4; omega
  · show 4 ≤ 4; omega
theorem Op1.isConv {Q : Value → List Atom → Prop} (h : Op1 c ⟨d, .convert t t' x, ty, pos, af, gd⟩ K H Q) : Op1 c ⟨d, .convert t t' x, ty, pos, af, gd⟩ K H Q := h
end Go.SL
