/- Windows on plain lists; no program here. -/
import Derived.Test.YtdnjjodjglikjaaRc
import Derived.Test.YtdnjjodjglikjaaSLMap
namespace Go.Proofs.Ytdnjjodjglikjaa
open Go Go.SL

section
variable {α : Type}
def lget (n : Int) : List (Int × α) → Option α
  | [] => none
  | p :: l => if n = p.1 then some p.2 else lget n l
def ldel (n : Int) : List (Int × α) → List (Int × α)
  | [] => []
  | p :: l => if n = p.1 then l else p :: ldel n l
abbrev lmap (f : α → Value) (l : List (Int × α)) : List (Int × Value) := l.map fun p => (p.1, f p.2)
theorem mget_map (f : α → Value) (n : Int) (l : List (Int × α)) : mget n (lmap f l) = (lget n l).map f := by
  induction l with
  | nil => rfl
  | cons p l ih => simp only [lmap, List.map_cons, mget, lget]; split <;> simp_all [lmap]
theorem mdel_map (f : α → Value) (n : Int) (l : List (Int × α)) : mdel n (lmap f l) = lmap f (ldel n l) := by
  induction l with
  | nil => rfl
  | cons p l ih => simp only [lmap, List.map_cons, mdel, ldel]; split <;> simp_all [lmap]
theorem ldel_len {n : Int} {l : List (Int × α)} {x : α} (h : lget n l = some x) : (ldel n l).length + 1 = l.length := by
  induction l with
  | nil => cases h
  | cons p l ih =>
    simp only [lget, ldel] at h ⊢
    split
    · rfl
    · rename_i hn
      rw [if_neg hn] at h
      have := ih h
      simp only [List.length_cons]; omega
/-- What is in order by now: how far, what is still early, what comes out. -/
def settle : Nat → Nat → List (Int × α) → Nat × List (Int × α) × List α
  | 0, u, E => (u, E, [])
  | f + 1, u, E => match lget ((u : Int) + 1) E with
    | none => (u, E, [])
    | some x => ((settle f (u + 1) (ldel ((u : Int) + 1) E)).1, (settle f (u + 1) (ldel ((u : Int) + 1) E)).2.1, x :: (settle f (u + 1) (ldel ((u : Int) + 1) E)).2.2)
theorem settle_none {u : Nat} {E : List (Int × α)} (h : lget ((u : Int) + 1) E = none) (f : Nat) : settle f u E = (u, E, []) := by
  cases f <;> simp [settle, h]
theorem settle_some {u : Nat} {E : List (Int × α)} {x : α} (h : lget ((u : Int) + 1) E = some x) :
    settle E.length u E = ((settle (ldel ((u : Int) + 1) E).length (u + 1) (ldel ((u : Int) + 1) E)).1, (settle (ldel ((u : Int) + 1) E).length (u + 1) (ldel ((u : Int) + 1) E)).2.1, x :: (settle (ldel ((u : Int) + 1) E).length (u + 1) (ldel ((u : Int) + 1) E)).2.2) := by
  have := ldel_len h
  rw [← this]
  simp only [settle, h]
theorem settle_len (f u : Nat) (E : List (Int × α)) : (settle f u E).1 ≤ u + f ∧ (settle f u E).2.2.length ≤ f ∧ (settle f u E).2.1.length ≤ E.length ∧ (settle f u E).2.2.length + (settle f u E).2.1.length = E.length ∧ (settle f u E).1 = u + (settle f u E).2.2.length := by
  induction f generalizing u E with
  | zero => simp [settle]
  | succ f ih =>
    simp only [settle]
    split
    · simp
    · rename_i x h
      have := ih (u + 1) (ldel ((u : Int) + 1) E)
      have := ldel_len h
      simp only [List.length_cons]
      omega
/-- What Come tells: the error, how far, what is early, what comes out. -/
def come (most u : Nat) (E : List (Int × α)) (n : Int) (x : α) : Int × Nat × List (Int × α) × List α :=
  if n < 1 then (142, u, E, [])
  else if (u : Int) + most < n then (141, u, E, [])
  else if (lget n E).isSome = true ∨ n ≤ u then (0, u, E, [])
  else (0, settle (E ++ [(n, x)]).length u (E ++ [(n, x)]))
end
end Go.Proofs.Ytdnjjodjglikjaa
