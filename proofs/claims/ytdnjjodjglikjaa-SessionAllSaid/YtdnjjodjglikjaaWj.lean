/- What the windows of a lossy way keep to, on plain lists; no program here. -/
import Derived.Test.YtdnjjodjglikjaaWa
namespace Go.Proofs.Ytdnjjodjglikjaa
open Go Go.SL

section
variable {α : Type}
theorem lget_mem {n : Int} {E : List (Int × α)} {x : α} (h : lget n E = some x) : (n, x) ∈ E := by
  induction E with
  | nil => cases h
  | cons p l ih =>
    simp only [lget] at h
    split at h
    · rename_i hn
      simp at h
      rw [hn, ← h]; simp
    · simp [ih h]
theorem lget_of_key {n : Int} {E : List (Int × α)} (h : n ∈ E.map (·.1)) : ∃ x, lget n E = some x := by
  induction E with
  | nil => simp at h
  | cons p l ih =>
    simp only [lget]
    split
    · exact ⟨_, rfl⟩
    · rename_i hn
      simp only [List.map_cons, List.mem_cons] at h
      exact ih (h.resolve_left hn)
theorem lget_append {n : Int} {E F : List (Int × α)} : lget n (E ++ F) = (lget n E).or (lget n F) := by
  induction E with
  | nil => simp [lget]
  | cons p l ih =>
    simp only [List.cons_append, lget]
    split <;> simp [ih]
theorem ldel_sub (n : Int) (E : List (Int × α)) : (ldel n E).Sublist E := by
  induction E with
  | nil => exact .refl _
  | cons p l ih =>
    simp only [ldel]
    split
    · exact .cons _ (.refl _)
    · exact ih.cons_cons _
theorem ldel_key {n : Int} {E : List (Int × α)} (hn : (E.map (·.1)).Nodup) : ∀ p ∈ ldel n E, p.1 ≠ n := by
  induction E with
  | nil => simp [ldel]
  | cons q l ih =>
    simp only [List.map_cons, List.nodup_cons] at hn
    simp only [ldel]
    split
    · rename_i h
      intro p hp e
      exact hn.1 (by rw [← h, ← e]; exact List.mem_map_of_mem hp)
    · rename_i h
      intro p hp
      rcases List.mem_cons.1 hp with rfl | hp
      · exact fun e => h e.symm
      · exact ih hn.2 p hp
theorem ldel_other {n m : Int} (h : m ≠ n) (E : List (Int × α)) : lget m (ldel n E) = lget m E := by
  induction E with
  | nil => rfl
  | cons q l ih =>
    simp only [ldel]
    split
    · rename_i hn
      simp only [lget]
      rw [if_neg (by rw [← hn]; exact h)]
    · simp only [lget, ih]
/-- What is early is of what was sent, behind what is told, each number once. -/
def Of (S : List α) (u : Nat) (E : List (Int × α)) : Prop := (∀ p ∈ E, (u : Int) < p.1 ∧ S[(p.1 - 1).toNat]? = some p.2) ∧ (E.map (·.1)).Nodup
def has (m : Int) (u : Nat) (E : List (Int × α)) : Prop := m ≤ u ∨ (lget m E).isSome = true
theorem settle_of {S : List α} : ∀ (f u : Nat) (E : List (Int × α)), E.length ≤ f → u ≤ S.length → Of S u E →
    Of S (settle f u E).1 (settle f u E).2.1 ∧ lget (((settle f u E).1 : Int) + 1) (settle f u E).2.1 = none ∧ S.take (settle f u E).1 = S.take u ++ (settle f u E).2.2 ∧ u ≤ (settle f u E).1 ∧ (settle f u E).1 ≤ S.length ∧
      ∀ m, has m u E → has m (settle f u E).1 (settle f u E).2.1
  | 0, u, E, hf, hu, h => by
    have : E = [] := List.eq_nil_of_length_eq_zero (by omega)
    subst this
    simp only [settle]
    exact ⟨h, rfl, by simp, Nat.le_refl _, hu, fun m h => h⟩
  | f + 1, u, E, hf, hu, h => by
    simp only [settle]
    split
    · rename_i hn
      exact ⟨h, hn, by simp, Nat.le_refl _, hu, fun m h => h⟩
    · rename_i x hx
      have hm := lget_mem hx
      obtain ⟨h1, h2⟩ := h.1 _ hm
      have h3 : S[u]? = some x := by simpa using h2
      have h4 := (List.getElem?_eq_some_iff.1 h3).1
      have hl := ldel_len hx
      have hof : Of S (u + 1) (ldel ((u : Int) + 1) E) := by
        refine ⟨fun p hp => ?_, h.2.sublist ((ldel_sub _ _).map _)⟩
        have hk := ldel_key h.2 p hp
        obtain ⟨q1, q2⟩ := h.1 p ((ldel_sub _ _).subset hp)
        exact ⟨by omega, q2⟩
      obtain ⟨r1, r2, r3, r4, r5, r6⟩ := settle_of f (u + 1) _ (by omega) (by omega) hof
      refine ⟨r1, r2, ?_, by omega, r5, fun m hm => r6 m ?_⟩
      · rw [r3, List.take_add_one, h3]; simp
      · by_cases he : m = (u : Int) + 1
        · exact .inl (by omega)
        · rcases hm with hm | hm
          · exact .inl (by omega)
          · exact .inr (by rw [ldel_other he]; exact hm)
theorem come_of {S : List α} {most u A : Nat} {E : List (Int × α)} {n : Nat} {x : α} (hu : u ≤ S.length) (hA : A ≤ u) (hk : S.length ≤ A + most) (h : Of S u E) (hno : lget ((u : Int) + 1) E = none) (hn0 : 0 < n) (hn : S[n - 1]? = some x) :
    (come most u E n x).1 = 0 ∧ Of S (come most u E n x).2.1 (come most u E n x).2.2.1 ∧ lget (((come most u E n x).2.1 : Int) + 1) (come most u E n x).2.2.1 = none ∧ S.take (come most u E n x).2.1 = S.take u ++ (come most u E n x).2.2.2 ∧
      u ≤ (come most u E n x).2.1 ∧ (come most u E n x).2.1 ≤ S.length ∧ (∀ m, has m u E → has m (come most u E n x).2.1 (come most u E n x).2.2.1) ∧ has n (come most u E n x).2.1 (come most u E n x).2.2.1 := by
  have hlt := (List.getElem?_eq_some_iff.1 hn).1
  unfold come
  rw [if_neg (by omega), if_neg (by omega)]
  by_cases hp : (lget (n : Int) E).isSome = true ∨ (n : Int) ≤ u
  · rw [if_pos hp]
    exact ⟨rfl, h, hno, by simp, Nat.le_refl _, hu, fun m h => h, hp.symm⟩
  · rw [if_neg hp]
    have hp1 : lget (n : Int) E = none := by
      cases hq : lget (n : Int) E with
      | none => rfl
      | some y => exact absurd (.inl (by rw [hq]; rfl)) hp
    have hp2 : ¬ (n : Int) ≤ u := fun h => hp (.inr h)
    have hof : Of S u (E ++ [((n : Int), x)]) := by
      refine ⟨fun p hm => ?_, ?_⟩
      · rcases List.mem_append.1 hm with hm | hm
        · exact h.1 p hm
        · simp at hm
          subst hm
          exact ⟨by simp only; omega, by simp only; rw [show ((n : Int) - 1).toNat = n - 1 from by omega]; exact hn⟩
      · rw [List.map_append, List.nodup_append]
        refine ⟨h.2, by simp, ?_⟩
        intro a ha b hb e
        simp at hb
        subst hb
        subst e
        obtain ⟨y, hy⟩ := lget_of_key ha
        rw [hp1] at hy; cases hy
    obtain ⟨r1, r2, r3, r4, r5, r6⟩ := settle_of (E ++ [((n : Int), x)]).length u _ (Nat.le_refl _) hu hof
    refine ⟨rfl, r1, r2, r3, r4, r5, fun m hm => r6 m ?_, r6 n ?_⟩
    · rcases hm with hm | hm
      · exact .inl hm
      · exact .inr (by rw [lget_append]; cases hq : lget m E with
          | none => rw [hq] at hm; cases hm
          | some y => rfl)
    · exact .inr (by rw [lget_append, hp1]; simp [lget])
theorem Of.app {S : List α} {u : Nat} {E : List (Int × α)} (h : Of S u E) (y : α) : Of (S ++ [y]) u E := by
  refine ⟨fun p hp => ?_, h.2⟩
  obtain ⟨h1, h2⟩ := h.1 p hp
  exact ⟨h1, by rw [List.getElem?_append_left (List.getElem?_eq_some_iff.1 h2).1]; exact h2⟩
theorem all_told {S : List α} {u : Nat} {E : List (Int × α)} (hu : u ≤ S.length) (h : Of S u E) (hno : lget ((u : Int) + 1) E = none) (ha : ∀ m : Nat, 0 < m → m ≤ S.length → has m u E) : u = S.length ∧ E = [] := by
  have he : u = S.length := by
    apply Classical.byContradiction
    intro hne
    rcases ha (u + 1) (by omega) (by omega) with h1 | h1
    · omega
    · rw [show ((u + 1 : Nat) : Int) = (u : Int) + 1 from by omega, hno] at h1; cases h1
  refine ⟨he, ?_⟩
  cases E with
  | nil => rfl
  | cons p E =>
    obtain ⟨h1, h2⟩ := h.1 p (by simp)
    have := (List.getElem?_eq_some_iff.1 h2).1
    omega
end
end Go.Proofs.Ytdnjjodjglikjaa
