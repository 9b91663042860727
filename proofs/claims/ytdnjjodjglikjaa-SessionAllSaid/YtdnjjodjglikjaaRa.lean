/- A ring: elements in a list that is used round and round. Plain lists; no program here. -/
namespace Go.Proofs.Ytdnjjodjglikjaa

theorem mod_two {a n : Nat} (h : a < 2 * n) : a % n = if a < n then a else a - n := by
  split
  · exact Nat.mod_eq_of_lt (by assumption)
  · rw [Nat.mod_eq_sub_mod (by omega), Nat.mod_eq_of_lt (by omega)]
structure RingOk {α : Type} (most : Nat) (xs : List α) (first : Nat) (L : List α) : Prop where
  le : L.length ≤ xs.length
  cap : xs.length ≤ most
  z : xs.length = 0 → first = 0
  lt : 0 < xs.length → first < xs.length
  get : ∀ i, i < L.length → xs[(first + i) % xs.length]? = L[i]?
section
variable {α : Type} {most : Nat} {xs L : List α} {first : Nat}
theorem RingOk.nil : RingOk most ([] : List α) 0 [] := ⟨by simp, by simp, fun _ => rfl, by simp, by simp⟩
theorem RingOk.push (h : RingOk most xs first L) (hl : L.length < xs.length) (x : α) : RingOk most (xs.set ((first + L.length) % xs.length) x) first (L ++ [x]) := by
  have hf := h.lt (by omega)
  refine ⟨by simp; omega, by rw [List.length_set]; exact h.cap, fun h0 => absurd h0 (by rw [List.length_set]; omega), fun _ => by rw [List.length_set]; exact hf, ?_⟩
  intro i hi
  simp only [List.length_append, List.length_cons, List.length_nil] at hi
  rw [List.length_set, List.getElem?_set]
  have e1 := mod_two (a := first + L.length) (n := xs.length) (by omega)
  have e2 := mod_two (a := first + i) (n := xs.length) (by omega)
  by_cases hil : i = L.length
  · subst hil
    rw [if_pos rfl, if_pos (Nat.mod_lt _ (by omega))]
    simp
  · have hne : (first + L.length) % xs.length ≠ (first + i) % xs.length := by
      rw [e1, e2]; split <;> split <;> omega
    rw [if_neg hne, h.get i (by omega), List.getElem?_append_left (by omega)]
theorem RingOk.set (h : RingOk most xs first L) {i : Nat} (hi : i < L.length) (x : α) : RingOk most (xs.set ((first + i) % xs.length) x) first (L.set i x) := by
  have hle := h.le
  have hf := h.lt (by omega)
  refine ⟨by simpa using h.le, by rw [List.length_set]; exact h.cap, fun h0 => absurd h0 (by rw [List.length_set]; omega), fun _ => by rw [List.length_set]; exact hf, ?_⟩
  intro j hj
  rw [List.length_set] at hj
  rw [List.length_set, List.getElem?_set]
  have e1 := mod_two (a := first + i) (n := xs.length) (by omega)
  have e2 := mod_two (a := first + j) (n := xs.length) (by omega)
  by_cases hij : i = j
  · subst hij
    rw [if_pos rfl, if_pos (Nat.mod_lt _ (by omega))]
    simp [hi]
  · have hne : (first + i) % xs.length ≠ (first + j) % xs.length := by
      rw [e1, e2]; split <;> split <;> omega
    rw [if_neg hne, h.get j (by omega), List.getElem?_set_ne hij]
/-- What is left behind j that were cleared. -/
structure RingGo (xs0 xs : List α) (first : Nat) (L : List α) (j : Nat) : Prop where
  len : xs.length = xs0.length
  get : ∀ i, j ≤ i → i < L.length → xs[(first + i) % xs0.length]? = L[i]?
theorem RingGo.zero (h : RingOk most xs first L) : RingGo xs xs first L 0 := ⟨rfl, fun i _ hi => h.get i hi⟩
theorem RingGo.step {xs0 : List α} (h : RingOk most xs0 first L) {j : Nat} (g : RingGo xs0 xs first L j) (hj : j < L.length) (z : α) : RingGo xs0 (xs.set ((first + j) % xs0.length) z) first L (j + 1) := by
  have hle := h.le
  have hf := h.lt (by omega)
  refine ⟨by simpa using g.len, ?_⟩
  intro i hi hil
  rw [List.getElem?_set]
  have e1 := mod_two (a := first + j) (n := xs0.length) (by omega)
  have e2 := mod_two (a := first + i) (n := xs0.length) (by omega)
  have hne : (first + j) % xs0.length ≠ (first + i) % xs0.length := by
    rw [e1, e2]; split <;> split <;> omega
  rw [if_neg hne]
  exact g.get i (by omega) hil
theorem RingGo.done {xs0 : List α} (h : RingOk most xs0 first L) {k : Nat} (g : RingGo xs0 xs first L k) (hk : k ≤ L.length) (hp : 0 < xs0.length) : RingOk most xs ((first + k) % xs0.length) (L.drop k) := by
  have hle := h.le
  have hf := h.lt hp
  refine ⟨by rw [g.len]; simp; omega, by rw [g.len]; exact h.cap, by rw [g.len]; omega, fun _ => by rw [g.len]; exact Nat.mod_lt _ hp, ?_⟩
  intro i hi
  rw [List.length_drop] at hi
  rw [g.len, List.getElem?_drop, ← g.get (k + i) (by omega) (by omega)]
  congr 1
  rw [Nat.mod_add_mod]
  congr 1
  omega
theorem RingOk.grown (h : RingOk most xs first L) {m : Nat} (hm : L.length ≤ m) (hmm : m ≤ most) (z : α) : RingOk most (L.take (min L.length (List.replicate m z).length) ++ (List.replicate m z).drop (min L.length (List.replicate m z).length)) 0 L := by
  have e : min L.length (List.replicate m z).length = L.length := by simp; omega
  rw [e, List.take_of_length_le (Nat.le_refl _)]
  have hl : (L ++ (List.replicate m z).drop L.length).length = m := by simp; omega
  refine ⟨by rw [hl]; exact hm, by rw [hl]; exact hmm, fun _ => rfl, fun h => by omega, ?_⟩
  intro i hi
  rw [hl, Nat.zero_add, Nat.mod_eq_of_lt (by omega), List.getElem?_append_left hi]
end
end Go.Proofs.Ytdnjjodjglikjaa
