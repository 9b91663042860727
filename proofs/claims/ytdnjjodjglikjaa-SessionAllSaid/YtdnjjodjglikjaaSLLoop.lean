/- A loop's rule in its everyday form: the slots and the memory by a ghost. No program is named here; the conditions stand in the rule. -/
import Derived.Test.YtdnjjodjglikjaaSLDraw
namespace Go.SL
open Go

variable {c : Cx} {k : List Item} {K : List (Nat × Value)} {H : List Atom}

theorem T.loopK {α : Type} {body : Code} {F : List Atom} (Kf : α → List (Nat × Value)) (Hf : α → List Atom) (Φ : α → Prop) (μ : α → Nat) (x0 : α) (hk : SubK (Kf x0) K) (hsp : Split H (Hf x0) F) (h0 : Φ x0)
    (round : ∀ x, Φ x → (∀ (y : α) (K' : List (Nat × Value)) (H' F' : List Atom), SubK (Kf y) K' → Split H' (Hf y) F' → Φ y → μ y < μ x → T c (.inLoop body :: k) K' H') →
      T c (.code body :: .inLoop body :: k) (Kf x) (Hf x)) : T c (.code (.loop body) :: k) K H := by
  refine T.weak hk hsp (T.loop μ (fun x K H => K = Kf x ∧ H = Hf x ∧ Φ x) x0 ⟨rfl, rfl, h0⟩ ?_)
  rintro x K H ⟨rfl, rfl, hx⟩ ih
  exact round x hx fun y K' H' F' h1 h2 h3 h4 => T.weak h1 h2 (ih y _ _ ⟨rfl, rfl, h3⟩ h4)

/-- Ways that meet again: what is known where they meet, by a ghost. -/
theorem T.join {α : Type} {x : Code} (Kf : α → List (Nat × Value)) (Hf : α → List Atom) (Φ : α → Prop)
    (head : (∀ (y : α) (K' : List (Nat × Value)) (H' F' : List Atom), SubK (Kf y) K' → Split H' (Hf y) F' → Φ y → T c k K' H') → T c (.code x :: k) K H) (tail : ∀ y, Φ y → T c k (Kf y) (Hf y)) : T c (.code x :: k) K H :=
  head fun y _ _ _ hk hs hy => T.weak hk hs (tail y hy)

theorem T.join2 {α : Type} {x y : Code} (Kf : α → List (Nat × Value)) (Hf : α → List Atom) (Φ : α → Prop)
    (head : (∀ (z : α) (K' : List (Nat × Value)) (H' F' : List Atom), SubK (Kf z) K' → Split H' (Hf z) F' → Φ z → T c k K' H') → T c (.code x :: .code y :: k) K H) (tail : ∀ z, Φ z → T c k (Kf z) (Hf z)) : T c (.code x :: .code y :: k) K H :=
  head fun y _ _ _ hk hs hy => T.weak hk hs (tail y hy)

theorem T.cong {t : List Item} {K' : List (Nat × Value)} {H' : List Atom} (h : T c t K' H') (hk : K' = K) (hh : H' = H) : T c t K H := by subst hk; subst hh; exact h

end Go.SL
