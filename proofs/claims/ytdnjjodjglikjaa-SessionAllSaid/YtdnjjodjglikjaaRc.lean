/- What the texts of a ring share. -/
import Derived.Test.YtdnjjodjglikjaaProg
import Derived.Test.YtdnjjodjglikjaaSLOwn4
import Derived.Test.YtdnjjodjglikjaaSLDraw2
import Derived.Test.YtdnjjodjglikjaaSLRange2
import Derived.Test.YtdnjjodjglikjaaRa
import Derived.KernelRfl
namespace Go.Proofs.Ytdnjjodjglikjaa
open Go Go.SL

abbrev ptr (p : Nat) : Value := .pointer (some ⟨p, 0, none⟩)
theorem get_of {α : Type} {l : List α} {i : Nat} (h : i < l.length) : ∃ x, l[i]? = some x := ⟨_, List.getElem?_eq_getElem h⟩
theorem natmod (a b n : Nat) : ((a : Int) + b) % n = ((a + b) % n : Nat) := by simp
def inR (i : Int) (n : Nat) : Bool := decide (0 ≤ i ∧ i < n)
def skipN (many : Int) (n : Nat) : Nat := (Min.min many n).toNat
theorem set_mid {α : Type} {l : List α} {k : Nat} (z : α) (h : k < l.length) : l.take k ++ List.replicate (k + 1 - k) z ++ l.drop (k + 1) = l.set k z := by
  rw [List.set_eq_take_append_cons_drop, if_pos h, show k + 1 - k = 1 from by omega]
  simp
end Go.Proofs.Ytdnjjodjglikjaa
