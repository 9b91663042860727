/- Where the lines of a text begin; places and offsets; edits. Plain lists; no program here. -/
namespace Go.Proofs.Ytognddhgnibgiaa

/-- The places behind all line feeds. -/
def feeds : List UInt8 → Int → List Int
  | [], _ => []
  | b :: s, k => if b = 10 then (k + 1) :: feeds s (k + 1) else feeds s (k + 1)
def nls (s : List UInt8) : Nat := (feeds s 0).length
def starts (s : List UInt8) : List Int := 0 :: feeds s 0
theorem feeds_append (a b : List UInt8) (k : Int) : feeds (a ++ b) k = feeds a k ++ feeds b (k + a.length) := by
  induction a generalizing k with
  | nil => simp [feeds]
  | cons x a ih =>
    simp only [List.cons_append, feeds, ih, List.length_cons]
    rw [show k + 1 + (a.length : Int) = k + ((a.length + 1 : Nat) : Int) from by omega]
    split <;> simp
theorem feeds_shift (s : List UInt8) (k d : Int) : feeds s (k + d) = (feeds s k).map (· + d) := by
  induction s generalizing k with
  | nil => simp [feeds]
  | cons b s ih =>
    simp only [feeds]
    rw [show k + d + 1 = k + 1 + d from by omega, ih]
    split <;> simp
theorem length_feeds (s : List UInt8) (k : Int) : (feeds s k).length = nls s := by
  have := feeds_shift s 0 k
  rw [Int.zero_add] at this
  rw [this]; simp [nls]
theorem feeds_mem {s : List UInt8} {k x : Int} (h : x ∈ feeds s k) : k < x ∧ x ≤ k + s.length := by
  induction s generalizing k with
  | nil => simp [feeds] at h
  | cons b s ih =>
    simp only [feeds] at h
    simp only [List.length_cons]
    split at h
    · rcases List.mem_cons.1 h with rfl | h
      · omega
      · have := ih h; omega
    · have := ih h; omega
theorem nls_le (s : List UInt8) : nls s ≤ s.length := by
  rw [← length_feeds s 0]
  have : ∀ (s : List UInt8) (k : Int), (feeds s k).length ≤ s.length := by
    intro s
    induction s with
    | nil => intro k; simp [feeds]
    | cons b s ih =>
      intro k
      simp only [feeds]
      have := ih (k + 1)
      split <;> simp <;> omega
  exact this s 0
theorem nls_append (a b : List UInt8) : nls (a ++ b) = nls a + nls b := by
  unfold nls
  rw [feeds_append, List.length_append, length_feeds b]; rfl
theorem starts_length (s : List UInt8) : (starts s).length = 1 + nls s := by simp [starts, nls]; omega
/-- The starts, parted at a place. -/
theorem starts_split (s : List UInt8) {n : Nat} (h : n ≤ s.length) : starts s = starts (s.take n) ++ feeds (s.drop n) n := by
  have := feeds_append (s.take n) (s.drop n) 0
  rw [List.take_append_drop, List.length_take, Nat.min_eq_left h, Int.zero_add] at this
  rw [starts, this]; rfl
theorem starts_le {s : List UInt8} {n : Nat} {x : Int} (h : x ∈ starts (s.take n)) : 0 ≤ x ∧ x ≤ n := by
  rcases List.mem_cons.1 h with rfl | h
  · omega
  · have := feeds_mem h
    rw [List.length_take] at this
    omega
/-- The line's number, and the place where it begins, of a place. -/
def posL (s : List UInt8) (n : Nat) : Nat := nls (s.take n)
def lastS (s : List UInt8) : Int := (feeds s 0).getLastD 0
def posC (s : List UInt8) (n : Nat) : Int := n - lastS (s.take n)
theorem lastS_mem (s : List UInt8) : lastS s ∈ starts s := List.getLastD_mem_cons
theorem lastS_bounds {s : List UInt8} {n : Nat} : 0 ≤ lastS (s.take n) ∧ lastS (s.take n) ≤ n := starts_le (lastS_mem _)
theorem starts_at (s : List UInt8) {n : Nat} (h : n ≤ s.length) : (starts s)[posL s n]? = some (lastS (s.take n)) := by
  rw [starts_split s h, List.getElem?_append_left (by rw [starts_length]; unfold posL; omega)]
  have : posL s n = (starts (s.take n)).length - 1 := by rw [starts_length]; unfold posL; omega
  rw [this, ← List.getLast?_eq_getElem?, starts, List.getLast?_cons, lastS, List.getLastD_eq_getLast?]
theorem posL_le (s : List UInt8) {n : Nat} (h : n ≤ s.length) : posL s n ≤ nls s := by
  have := nls_append (s.take n) (s.drop n)
  rw [List.take_append_drop] at this
  unfold posL; omega
theorem lastS_snoc (s : List UInt8) (b : UInt8) : lastS (s ++ [b]) = if b = 10 then (s.length : Int) + 1 else lastS s := by
  unfold lastS
  rw [feeds_append, Int.zero_add]
  simp only [feeds]
  split
  · simp
  · simp
theorem nls_snoc (s : List UInt8) (b : UInt8) : nls (s ++ [b]) = if b = 10 then nls s + 1 else nls s := by
  rw [nls_append]
  simp only [nls, feeds]
  split <;> simp
/-- An offset, if there is one. -/
def offP (s : List UInt8) (line col : Int) : Option Int :=
  if 0 ≤ line ∧ line < (starts s).length then
    let st := (starts s).getD line.toNat 0
    if 0 ≤ col ∧ col ≤ s.length - st ∧ (posL s (st + col).toNat : Int) = line then some (st + col) else none
  else none
theorem offP_of {s : List UInt8} {n : Nat} (h : n ≤ s.length) : offP s (posL s n) (posC s n) = some (n : Int) := by
  have hl := posL_le s h
  have ha := starts_at s h
  have hb := lastS_bounds (s := s) (n := n)
  unfold offP
  rw [if_pos (by rw [starts_length]; omega)]
  have hst : (starts s).getD ((posL s n : Nat) : Int).toNat 0 = lastS (s.take n) := by
    rw [Int.toNat_natCast, List.getD_eq_getElem?_getD, ha]; rfl
  simp only [hst]
  have hc : lastS (s.take n) + posC s n = n := by unfold posC; omega
  rw [hc]
  rw [if_pos (by refine ⟨?_, ?_, ?_⟩ <;> first | (unfold posC; omega) | simp)]
theorem offP_some {s : List UInt8} {line col x : Int} (h : offP s line col = some x) : ∃ n : Nat, x = n ∧ n ≤ s.length ∧ (posL s n : Int) = line ∧ posC s n = col := by
  unfold offP at h
  split at h
  · rename_i hl
    simp only at h
    split at h
    · rename_i hc
      simp only [Option.some.injEq] at h
      obtain ⟨k, rfl⟩ : ∃ k : Nat, line = k := ⟨line.toNat, by omega⟩
      rw [Int.toNat_natCast] at h hc
      obtain ⟨st, hst⟩ : ∃ st, (starts s)[k]? = some st := ⟨_, List.getElem?_eq_getElem (by omega)⟩
      have hg : (starts s).getD k 0 = st := by rw [List.getD_eq_getElem?_getD, hst]; rfl
      rw [hg] at h hc
      have h0 : 0 ≤ st := by
        have := List.mem_of_getElem? hst
        rcases List.mem_cons.1 this with rfl | hm
        · omega
        · have := feeds_mem hm; omega
      refine ⟨x.toNat, by omega, by omega, ?_, ?_⟩
      · rw [← h]; exact hc.2.2
      · have hn : x.toNat ≤ s.length := by omega
        have ha := starts_at s hn
        have hk : posL s x.toNat = k := by have := hc.2.2; rw [h] at this; omega
        rw [hk, hst] at ha
        simp only [Option.some.injEq] at ha
        unfold posC
        omega
    · cases h
  · cases h
/-- An edit's starts. -/
theorem starts_edit {s add : List UInt8} {n d : Nat} (h : n + d ≤ s.length) :
    starts (s.take n ++ add ++ s.drop (n + d)) = (starts s).take (1 + posL s n) ++ feeds add n ++ ((starts s).drop (1 + posL s (n + d))).map (· + (add.length - d : Int)) := by
  have e1 := starts_split s (n := n) (by omega)
  have e2 := starts_split s (n := n + d) h
  have l1 : (starts (s.take n)).length = 1 + posL s n := starts_length _
  have l2 : (starts (s.take (n + d))).length = 1 + posL s (n + d) := starts_length _
  have t1 : (starts s).take (1 + posL s n) = starts (s.take n) := by rw [e1, ← l1]; exact List.take_left
  have t2 : (starts s).drop (1 + posL s (n + d)) = feeds (s.drop (n + d)) ((n + d : Nat) : Int) := by rw [e2, ← l2]; exact List.drop_left
  rw [t1, t2, ← feeds_shift]
  unfold starts
  rw [feeds_append, feeds_append, List.length_append, List.length_take, Nat.min_eq_left (by omega)]
  simp only [List.cons_append, List.append_assoc, Int.zero_add]
  rw [show (((n + d : Nat) : Int) + ((add.length : Int) - d)) = ((n + add.length : Nat) : Int) from by omega]
end Go.Proofs.Ytognddhgnibgiaa
