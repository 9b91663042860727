/- Tokens of a text, on plain lists; no program here. -/
import Derived.Test.YtdblkhijcijgbaaLd
namespace Go.Proofs.Ytdblkhijcijgbaa
open Go

/-- Going over bytes with a state. -/
def run {σ : Type} (ok : UInt8 → σ → Bool) (nx : UInt8 → σ → σ) : List UInt8 → σ → Nat × σ
  | [], t => (0, t)
  | b :: l, t => if ok b t = true then ((run ok nx l (nx b t)).1 + 1, (run ok nx l (nx b t)).2) else (0, t)
theorem run_le {σ : Type} (ok : UInt8 → σ → Bool) (nx : UInt8 → σ → σ) (l : List UInt8) (t : σ) : (run ok nx l t).1 ≤ l.length := by
  induction l generalizing t with
  | nil => simp [run]
  | cons b l ih =>
    simp only [run]
    split
    · have := ih (nx b t); simp only [List.length_cons]; omega
    · simp
/-- Whatever stands behind a line's bytes: nothing, or a line feed. -/
def Ends (c : List UInt8) : Prop := c = [] ∨ ∃ r, c = 10 :: r
theorem run_line {σ : Type} {ok : UInt8 → σ → Bool} {nx : UInt8 → σ → σ} (h : ∀ t, ok 10 t = false) (l c : List UInt8) (hc : Ends c) (t : σ) : run ok nx (l ++ c) t = run ok nx l t := by
  induction l generalizing t with
  | nil =>
    rcases hc with rfl | ⟨r, rfl⟩
    · rfl
    · simp [run, h]
  | cons b l ih => simp only [List.cons_append, run, ih]
theorem run_all {σ : Type} {ok : UInt8 → σ → Bool} {nx : UInt8 → σ → σ} (h : ∀ t, ok 10 t = false) (l : List UInt8) (t : σ) : ∀ b ∈ l.take (run ok nx l t).1, b ≠ 10 := by
  induction l generalizing t with
  | nil => simp [run]
  | cons b l ih =>
    simp only [run]
    split
    · rename_i hb
      intro x hx
      rw [List.take_succ_cons] at hx
      rcases List.mem_cons.1 hx with rfl | hx
      · rintro rfl; rw [h] at hb; cases hb
      · exact ih _ x hx
    · simp
def runP (p : UInt8 → Bool) (l : List UInt8) : Nat := (run (fun b (_ : Unit) => p b) (fun _ t => t) l ()).1
def partB (b : UInt8) : Bool := partN (byteN b)
def digitB (b : UInt8) : Bool := digitN (byteN b)
def lineB (b : UInt8) : Bool := decide (b ≠ 10)
def okQ (b : UInt8) (t : Bool × Bool) : Bool := !(decide (b = 10) || t.2)
def nxQ (b : UInt8) (t : Bool × Bool) : Bool × Bool := (decide (b = 92) && !t.1, decide (b = 34) && !t.1)
def quotedL (l : List UInt8) : Nat × (Bool × Bool) := run okQ nxQ l (false, false)
def wordL (l : List UInt8) : Bool := tableN.any fun w => decide (w.data.toList = l)
def nextL (l : List UInt8) (n : Int) : Bool := decide (1 < l.length ∧ byteN (l.getD 1 0) = n)
def sgnL (l : List UInt8) : Nat :=
  if l = [] then 0
  else if (byteN (l.getD 0 0) = 61 ∧ nextL l 61 = true) ∨ ((byteN (l.getD 0 0) = 61 ∨ byteN (l.getD 0 0) = 45) ∧ nextL l 62 = true) then 2
  else if signL (byteN (l.getD 0 0)) = true then 1 else 0
/-- The token at a text's head: kind and length. -/
def oneL (b : UInt8) (r : List UInt8) : Int × Nat :=
  if startN (byteN b) = true then (if wordL ((b :: r).take (runP partB (b :: r))) = true then 2 else 1, runP partB (b :: r))
  else if digitN (byteN b) = true then (3, runP digitB (b :: r))
  else if b = 34 then (if (quotedL r).2.2 = true then 4 else 6, (quotedL r).1 + 1)
  else if 0 < sgnL (b :: r) then (5, sgnL (b :: r)) else (6, 1)
theorem part10 : partB 10 = false := by decide
theorem digit10 : digitB 10 = false := by decide
theorem runP_pos {p : UInt8 → Bool} {b : UInt8} {r : List UInt8} (h : p b = true) : 0 < runP p (b :: r) := by
  unfold runP; simp [run, h]
theorem sgn_le (l : List UInt8) : sgnL l ≤ l.length := by
  unfold sgnL nextL
  split
  · omega
  · rename_i h
    have := List.length_pos_iff.2 h
    split
    · rename_i h2
      simp only [decide_eq_true_eq] at h2
      omega
    · split <;> omega
theorem one_pos (b : UInt8) (r : List UInt8) : 0 < (oneL b r).2 ∧ (oneL b r).2 ≤ (b :: r).length := by
  unfold oneL
  split
  · rename_i h
    exact ⟨runP_pos (by unfold partB partN; rw [h]; rfl), run_le _ _ _ _⟩
  split
  · rename_i h
    exact ⟨runP_pos h, run_le _ _ _ _⟩
  split
  · have := run_le okQ nxQ r (false, false)
    simp only [quotedL, List.length_cons]
    omega
  split
  · rename_i h
    exact ⟨h, sgn_le (b :: r)⟩
  · simp
theorem sgn_line (b : UInt8) (r c : List UInt8) (hc : Ends c) : sgnL (b :: r ++ c) = sgnL (b :: r) := by
  have hn : ∀ n : Int, n ≠ 10 → nextL (b :: r ++ c) n = nextL (b :: r) n := by
    intro n hn
    unfold nextL
    cases r with
    | nil =>
      rcases hc with rfl | ⟨q, rfl⟩
      · simp
      · have : ¬ byteN 10 = n := fun e => hn (by rw [← e]; rfl)
        simp [this]
    | cons d r => simp
  unfold sgnL
  rw [hn 61 (by omega), hn 62 (by omega)]
  simp
theorem one_line (b : UInt8) (r c : List UInt8) (hc : Ends c) : oneL b (r ++ c) = oneL b r := by
  have h1 : runP partB (b :: (r ++ c)) = runP partB (b :: r) := by
    unfold runP
    rw [← List.cons_append, run_line (fun _ => part10) _ _ hc]
  have h2 : runP digitB (b :: (r ++ c)) = runP digitB (b :: r) := by
    unfold runP
    rw [← List.cons_append, run_line (fun _ => digit10) _ _ hc]
  have h3 : quotedL (r ++ c) = quotedL r := run_line (fun t => by simp [okQ]) _ _ hc _
  have h4 : sgnL (b :: (r ++ c)) = sgnL (b :: r) := sgn_line b r c hc
  have h5 : (b :: (r ++ c)).take (runP partB (b :: r)) = (b :: r).take (runP partB (b :: r)) := by
    rw [← List.cons_append, List.take_append_of_le_length (show runP partB (b :: r) ≤ (b :: r).length from run_le _ _ _ _)]
  unfold oneL
  rw [h1, h2, h3, h4, h5]
theorem byteN_eq {b : UInt8} {n : Nat} (hn : n < 256) : byteN b = n ↔ b = UInt8.ofNat n := by
  unfold byteN
  constructor
  · intro h
    have : b.toNat = n := by omega
    rw [← this]; simp
  · rintro rfl
    simp; omega
theorem one_no10 (b : UInt8) (r : List UInt8) (hb : b ≠ 10) : ∀ x ∈ (b :: r).take (oneL b r).2, x ≠ 10 := by
  unfold oneL
  split
  · exact run_all (fun _ => part10) _ _
  split
  · exact run_all (fun _ => digit10) _ _
  split
  · intro x hx
    simp only [List.take_succ_cons] at hx
    rcases List.mem_cons.1 hx with rfl | hx
    · exact hb
    · exact run_all (fun t => by simp [okQ]) _ _ x hx
  split
  · intro x hx
    unfold sgnL nextL at hx
    rw [if_neg (by simp)] at hx
    split at hx
    · rename_i h2
      cases r with
      | nil => simp at h2
      | cons d r =>
        simp only [List.take_succ_cons, List.take_zero, List.mem_cons, List.not_mem_nil, or_false] at hx
        rcases hx with rfl | rfl
        · exact hb
        · rintro rfl
          simp [byteN] at h2
    · split at hx
      · simp at hx; rw [hx]; exact hb
      · simp at hx
  · intro x hx
    simp at hx; rw [hx]; exact hb
/-- All tokens. -/
def toks : Nat → List UInt8 → Nat → List (Int × Nat × Nat)
  | 0, _, _ => []
  | _ + 1, [], _ => []
  | f + 1, b :: r, at_ =>
    if blankN (byteN b) = true then toks f r (at_ + 1)
    else if b = 35 then toks f ((b :: r).drop (runP lineB (b :: r))) (at_ + runP lineB (b :: r))
    else ((oneL b r).1, at_, at_ + (oneL b r).2) :: toks f ((b :: r).drop (oneL b r).2) (at_ + (oneL b r).2)
theorem toks_nil (f at_ : Nat) : toks f [] at_ = [] := by cases f <;> rfl
theorem runB_pos (r : List UInt8) : 0 < runP lineB (35 :: r) := runP_pos (by decide)
theorem toks_any : ∀ (f g : Nat) (l : List UInt8) (at_ : Nat), l.length ≤ f → l.length ≤ g → toks f l at_ = toks g l at_
  | 0, g, l, at_, h, _ => by rw [List.eq_nil_of_length_eq_zero (by omega : l.length = 0), toks_nil, toks_nil]
  | f + 1, 0, l, at_, _, h => by rw [List.eq_nil_of_length_eq_zero (by omega : l.length = 0), toks_nil, toks_nil]
  | f + 1, g + 1, [], at_, _, _ => rfl
  | f + 1, g + 1, b :: r, at_, h1, h2 => by
    simp only [List.length_cons] at h1 h2
    have hp := (one_pos b r).1
    simp only [toks]
    rw [toks_any f g r (at_ + 1) (by omega) (by omega), toks_any f g ((b :: r).drop (oneL b r).2) _ (by simp; omega) (by simp; omega)]
    split
    · rfl
    split
    · rename_i h
      subst h
      have := runB_pos r
      rw [toks_any f g _ _ (by simp; omega) (by simp; omega)]
    · rfl
def lex (l : List UInt8) (at_ : Nat) : List (Int × Nat × Nat) := toks l.length l at_
theorem lex_nil (at_ : Nat) : lex [] at_ = [] := rfl
theorem lex_blank {b : UInt8} (h : blankN (byteN b) = true) (r : List UInt8) (at_ : Nat) : lex (b :: r) at_ = lex r (at_ + 1) := by
  unfold lex
  simp only [List.length_cons, toks, if_pos h]
theorem lex_note {b : UInt8} (h : ¬ blankN (byteN b) = true) (h2 : b = 35) (r : List UInt8) (at_ : Nat) : lex (b :: r) at_ = lex ((b :: r).drop (runP lineB (b :: r))) (at_ + runP lineB (b :: r)) := by
  unfold lex
  simp only [List.length_cons, toks, if_neg h, if_pos h2]
  subst h2
  have := runB_pos r
  exact toks_any _ _ _ _ (by simp; omega) (Nat.le_refl _)
theorem lex_tok {b : UInt8} (h : ¬ blankN (byteN b) = true) (h2 : ¬ b = 35) (r : List UInt8) (at_ : Nat) :
    lex (b :: r) at_ = ((oneL b r).1, at_, at_ + (oneL b r).2) :: lex ((b :: r).drop (oneL b r).2) (at_ + (oneL b r).2) := by
  unfold lex
  simp only [List.length_cons, toks, if_neg h, if_neg h2]
  have := (one_pos b r).1
  rw [toks_any r.length _ _ _ (by simp; omega) (Nat.le_refl _)]
theorem lex_shift (d : Nat) : ∀ (f : Nat) (l : List UInt8) (at_ : Nat), l.length ≤ f → lex l (at_ + d) = (lex l at_).map fun t => (t.1, t.2.1 + d, t.2.2 + d)
  | 0, l, at_, h => by rw [List.eq_nil_of_length_eq_zero (by omega : l.length = 0)]; rfl
  | f + 1, [], at_, _ => rfl
  | f + 1, b :: r, at_, h => by
    simp only [List.length_cons] at h
    by_cases hb : blankN (byteN b) = true
    · rw [lex_blank hb, lex_blank hb, show at_ + d + 1 = at_ + 1 + d from by omega, lex_shift d f r _ (by omega)]
    by_cases hn : b = 35
    · rw [lex_note hb hn, lex_note hb hn]
      have := runB_pos r
      subst hn
      rw [show at_ + d + runP lineB (35 :: r) = at_ + runP lineB (35 :: r) + d from by omega, lex_shift d f _ _ (by simp; omega)]
    · rw [lex_tok hb hn, lex_tok hb hn]
      have := (one_pos b r).1
      rw [show at_ + d + (oneL b r).2 = at_ + (oneL b r).2 + d from by omega, lex_shift d f _ _ (by simp; omega)]
      rfl
theorem line_all {l : List UInt8} (h : ∀ b ∈ l, b ≠ 10) (c : List UInt8) (hc : Ends c) : runP lineB (l ++ c) = l.length := by
  unfold runP
  rw [run_line (fun _ => by decide) _ _ hc]
  induction l with
  | nil => rfl
  | cons b l ih =>
    have hb : lineB b = true := decide_eq_true (h b (by simp))
    simp [run, hb, ih fun x hx => h x (by simp [hx])]
/-- A line's tokens, and those of what is behind it. -/
theorem lex_line : ∀ (f : Nat) (l c : List UInt8) (at_ : Nat), l.length ≤ f → (∀ b ∈ l, b ≠ 10) → Ends c → lex (l ++ c) at_ = lex l at_ ++ lex c (at_ + l.length)
  | 0, l, c, at_, h, _, _ => by rw [List.eq_nil_of_length_eq_zero (by omega : l.length = 0)]; rfl
  | f + 1, [], c, at_, _, _, _ => rfl
  | f + 1, b :: r, c, at_, h, hl, hc => by
    simp only [List.length_cons] at h ⊢
    have hlr : ∀ x ∈ r, x ≠ 10 := fun x hx => hl x (by simp [hx])
    rw [List.cons_append]
    by_cases hb : blankN (byteN b) = true
    · rw [lex_blank hb, lex_blank hb, lex_line f r c _ (by omega) hlr hc, show at_ + 1 + r.length = at_ + (r.length + 1) from by omega]
    by_cases hn : b = 35
    · rw [lex_note hb hn, lex_note hb hn]
      have e1 := line_all hl c hc
      have e2 := line_all hl [] (.inl rfl)
      rw [List.append_nil] at e2
      rw [List.cons_append] at e1
      rw [e1, e2, List.drop_length, lex_nil, ← List.cons_append, List.drop_left, List.nil_append]
      rfl
    · rw [lex_tok hb hn, lex_tok hb hn, one_line b r c hc]
      have hp := one_pos b r
      simp only [List.length_cons] at hp
      have hd : ((b :: r).drop (oneL b r).2).length = r.length + 1 - (oneL b r).2 := by simp
      rw [← List.cons_append, List.drop_append_of_le_length (by simp; omega), lex_line f _ c _ (by omega) (fun x hx => hl x (List.mem_of_mem_drop hx)) hc, hd,
        show at_ + (oneL b r).2 + (r.length + 1 - (oneL b r).2) = at_ + (r.length + 1) from by omega]
      rfl
/-! ### What stands between tokens -/
def gapB (c : UInt8) (out : Bool) : Bool := (out || decide (c = 35)) && decide (c ≠ 10)
def gapR : List UInt8 → Bool → Option Bool
  | [], out => some out
  | c :: l, out => if (gapB c out || blankN (byteN c)) = true then gapR l (gapB c out) else none
theorem gapR_append (a b : List UInt8) (out : Bool) : gapR (a ++ b) out = (gapR a out).bind (gapR b) := by
  induction a generalizing out with
  | nil => rfl
  | cons c a ih => simp only [List.cons_append, gapR]; split <;> simp [ih]
def Chk : List UInt8 → Nat → List (Int × Nat × Nat) → Prop
  | rest, _, [] => (gapR rest false).isSome = true
  | rest, at0, t :: T => at0 ≤ t.2.1 ∧ t.2.1 < t.2.2 ∧ t.2.2 ≤ at0 + rest.length ∧ (gapR (rest.take (t.2.1 - at0)) false).isSome = true ∧ (∀ b ∈ (rest.drop (t.2.1 - at0)).take (t.2.2 - t.2.1), b ≠ 10) ∧ Chk (rest.drop (t.2.2 - at0)) t.2.2 T
theorem gapR_note (l : List UInt8) : gapR (l.take (runP lineB l)) true = some true := by
  unfold runP
  induction l with
  | nil => rfl
  | cons c l ih =>
    simp only [run]
    split
    · rename_i h
      have hc : c ≠ 10 := of_decide_eq_true h
      rw [List.take_succ_cons]
      simp only [gapR, gapB, hc, Bool.true_or, ne_eq, not_false_eq_true, decide_true, Bool.and_self, if_true]
      exact ih
    · rfl
theorem note_end (l : List UInt8) : Ends (l.drop (runP lineB l)) := by
  unfold runP
  induction l with
  | nil => exact .inl rfl
  | cons c l ih =>
    simp only [run]
    split
    · exact ih
    · rename_i h
      have hc : c = 10 := by
        apply Decidable.byContradiction
        intro hne
        exact h (decide_eq_true hne)
      exact .inr ⟨l, by rw [hc]; rfl⟩
theorem chk_lex : ∀ (f : Nat) (g l : List UInt8) (at0 : Nat) (out : Bool), l.length ≤ f → gapR g false = some out → (out = true → Ends l) → Chk (g ++ l) at0 (lex l (at0 + g.length)) := by
  intro f
  induction f with
  | zero =>
    intro g l at0 out h hg _
    rw [List.eq_nil_of_length_eq_zero (by omega : l.length = 0), List.append_nil, lex_nil]
    unfold Chk
    rw [hg]; rfl
  | succ f ih =>
    intro g l at0 out h hg ho
    cases l with
    | nil =>
      rw [List.append_nil, lex_nil]
      unfold Chk
      rw [hg]; rfl
    | cons b r =>
      simp only [List.length_cons] at h
      have h10 : b ≠ 10 → out = false := fun hb => by
        cases out with
        | false => rfl
        | true =>
          rcases ho rfl with e | ⟨q, e⟩
          · cases e
          · exact absurd (List.cons.inj e).1 hb
      by_cases hb : blankN (byteN b) = true
      · rw [lex_blank hb]
        have hgb : gapB b out = false := by
          unfold gapB
          by_cases h : b = 10
          · simp [h]
          · rw [h10 h]
            have : b ≠ 35 := by rintro rfl; exact absurd hb (by decide)
            simp [this]
        have hg' : gapR (g ++ [b]) false = some false := by
          rw [gapR_append, hg]
          simp [gapR, hgb, hb]
        have := ih (g ++ [b]) r at0 false (by omega) hg' (fun h => by cases h)
        rw [List.append_assoc, List.length_append] at this
        exact this
      have hb10 : b ≠ 10 := by rintro rfl; exact hb (by decide)
      have hof := h10 hb10
      subst hof
      by_cases hn : b = 35
      · rw [lex_note hb hn]
        have hp := runB_pos r
        rw [← hn] at hp
        have hle : runP lineB (b :: r) ≤ (b :: r).length := run_le _ _ _ _
        have hg' : gapR (g ++ (b :: r).take (runP lineB (b :: r))) false = some true := by
          rw [gapR_append, hg]
          have := gapR_note (b :: r)
          obtain ⟨n, hn'⟩ : ∃ n, runP lineB (b :: r) = n + 1 := ⟨runP lineB (b :: r) - 1, by omega⟩
          rw [hn', List.take_succ_cons] at this ⊢
          simp only [gapR, gapB, hn, Option.bind_some] at this ⊢
          simpa using this
        have := ih (g ++ (b :: r).take (runP lineB (b :: r))) ((b :: r).drop (runP lineB (b :: r))) at0 true (by simp; omega) hg' (fun _ => note_end _)
        rw [List.append_assoc, List.take_append_drop, List.length_append, List.length_take, Nat.min_eq_left hle, ← Nat.add_assoc] at this
        exact this
      · rw [lex_tok hb hn]
        have hp := one_pos b r
        have hd : at0 + g.length - at0 = g.length := by omega
        unfold Chk
        refine ⟨by simp only; omega, by simp only; omega, by simp only [List.length_append]; omega, ?_, ?_, ?_⟩
        · simp only [hd]
          rw [List.take_left, hg]; rfl
        · simp only [hd]
          rw [List.drop_left, show at0 + g.length + (oneL b r).2 - (at0 + g.length) = (oneL b r).2 from by omega]
          exact one_no10 b r hb10
        · simp only
          rw [show at0 + g.length + (oneL b r).2 - at0 = g.length + (oneL b r).2 from by omega, ← List.drop_drop, List.drop_left]
          have := ih [] ((b :: r).drop (oneL b r).2) (at0 + g.length + (oneL b r).2) false (by simp; omega) rfl (fun h => by cases h)
          exact this
end Go.Proofs.Ytdblkhijcijgbaa
