/- Regions that draw their order, more: an operation that turns all that is owned while others may still come late; two that may come in either order. No program is named here; the conditions stand in each rule. -/
import Derived.Test.YtdnjjodjglikjaaSLDraw
import Derived.Test.YtdnjjodjglikjaaSLMore
namespace Go.SL
open Go

variable {c : Cx} {k : List Item} {K : List (Nat × Value)}

/-- All on which an operation hangs, by one walk down. -/
def farGo (ops : List Oper) : Nat → List Nat → List Nat
  | 0, S => S
  | j + 1, S => match S.contains j with
    | true => match ops[j]? with
      | some o => farGo ops j (S ++ deps o)
      | none => farGo ops j S
    | false => farGo ops j S
def far (ops : List Oper) (i : Nat) : List Nat := match ops[i]? with
  | some o => farGo ops i (deps o)
  | none => []
theorem farGo_done {ops : List Oper} {D : Nat → Prop} (hcl : ∀ i o, ops[i]? = some o → D i → ∀ j ∈ deps o, D j) : ∀ (n : Nat) (S : List Nat), (∀ j ∈ S, D j) → ∀ j ∈ farGo ops n S, D j
  | 0, _, h => h
  | n + 1, S, h => by
    unfold farGo
    split
    · rename_i hc
      have hn : n ∈ S := by simpa using hc
      split
      · rename_i o ho
        refine farGo_done hcl n _ fun j hj => ?_
        rcases List.mem_append.1 hj with hj | hj
        · exact h j hj
        · exact hcl n o ho (h n hn) j hj
      · exact farGo_done hcl n S h
    · exact farGo_done hcl n S h
theorem far_done {ops : List Oper} {D : Nat → Prop} (hcl : ∀ i o, ops[i]? = some o → D i → ∀ j ∈ deps o, D j) {i : Nat} {o : Oper} (ho : ops[i]? = some o) (hd : ∀ j ∈ deps o, D j) : ∀ j ∈ far ops i, D j := by
  unfold far
  rw [ho]
  exact farGo_done hcl i _ hd
/-- Is it done for sure when operation i's turn has come? -/
def doneBy (ops : List Oper) (hv : List Nat) (i : Nat) (j : Nat) : Bool := hv.contains j || (far ops i).contains j
def lateOf (ops : List Oper) (V : List (Nat × Value)) (hv : List Nat) (i : Nat) : List (Nat × Value) :=
  let f := far ops i
  V.filter fun p => !(hv.contains p.1 || f.contains p.1)
def doneOf (ops : List Oper) (V : List (Nat × Value)) (hv : List Nat) (i : Nat) : List Nat :=
  let f := far ops i
  (V.filter fun p => hv.contains p.1 || f.contains p.1).map (·.1)
/-- Each of these gives the same over other memory too. -/
def ReLt (c : Cx) (ops : List Oper) (K : List (Nat × Value)) (L : List Atom) (V : List (Nat × Value)) : List (Nat × Value) → Prop
  | [] => True
  | (j, v) :: l => Lt c ops K L V j v ∧ ReLt c ops K L V l
theorem ReLt.get {ops : List Oper} {L : List Atom} {V : List (Nat × Value)} : ∀ {l : List (Nat × Value)}, ReLt c ops K L V l → ∀ p ∈ l, Lt c ops K L V p.1 p.2
  | [], _, _, h => by simp at h
  | (j, v) :: l, ⟨h1, h2⟩, p, hp => by
    rcases List.mem_cons.1 hp with rfl | hp
    · exact h1
    · exact ReLt.get h2 p hp
theorem Lt.val {ops : List Oper} {L : List Atom} {V : List (Nat × Value)} {i : Nat} {v : Value} {o : Oper} (ho : ops[i]? = some o) (hr : readyV V o = true) (hw : wants ops (KD ops V o K) o = some true) (hop : Op1 c o (KD ops V o K) L (ret v L)) : Lt c ops K L V i v :=
  ⟨o, ho, hr, .inl ⟨hw, hop⟩⟩
theorem Lt.pass {ops : List Oper} {L : List Atom} {V : List (Nat × Value)} {i : Nat} {v : Value} {o : Oper} (ho : ops[i]? = some o) (hr : readyV V o = true) (hw : wants ops (KD ops V o K) o = some false) (hv : v = undef) : Lt c ops K L V i v :=
  ⟨o, ho, hr, .inr ⟨hw, hv⟩⟩
theorem look_mem : ∀ {V : List (Nat × Value)} {m : Nat} {u : Value}, look V m = some u → (m, u) ∈ V
  | [], _, _, h => by simp [look] at h
  | (n, x) :: V, m, u, h => by
    rw [look_cons] at h
    by_cases e : n = m
    · rw [if_pos e] at h; cases h; subst e; simp
    · rw [if_neg e] at h; exact List.mem_cons_of_mem _ (look_mem h)
theorem look_some_of_mem : ∀ {V : List (Nat × Value)} {m : Nat}, m ∈ V.map (·.1) → inV V m = true
  | [], _, h => by simp at h
  | (n, x) :: V, m, h => by
    unfold inV
    rw [look_cons]
    by_cases e : n = m
    · rw [if_pos e]; rfl
    · rw [if_neg e]
      rcases List.mem_cons.1 h with h | h
      · exact absurd h.symm e
      · exact look_some_of_mem h

/-- What one heavy operation comes to, when its turn has come. -/
theorem DT.heavyAt {ops : List Oper} {hs : List Nat} {L A : List Atom} {V : List (Nat × Value)} {hv : List Nat} (hk : dstsOk c.func.ntmps K ops [] = true) {i : Nat} {o : Oper} {Q : Value → List Atom → Prop} (hi : inV V i = false)
    (ho : ops[i]? = some o) (hw : wants ops (KD ops V o K) o = some true) (hop : Op1 c o (KD ops V o K) (L ++ A) Q)
    (h : ∀ v H', Q v H' → ∃ L' A', H'.Perm (L' ++ A') ∧ ReLt c ops K L' V (lateOf ops V hv i) ∧ DT c ops hs k K L' ((i, v) :: V) (i :: doneOf ops V hv i) A')
    {D : Nat → Prop} {l : List Nat} (hD : ∀ i, D i → inV V i = true) (hC : ∀ (i : Nat) (o : Oper), ops[i]? = some o → D i → ∀ j ∈ deps o, D j) (hH : ∀ i ∈ hv, D i) (hnD : ¬ D i) (hdeps : ∀ j ∈ deps o, D j) (hrest : Lin ops (fun j => j = i ∨ D j) l)
    {b : Frame} {a : Act} {cs : List Frame} {w : World} {hx hr : Hp} (h0 : c.P.funcs[c.fn]? = some c.func) (h1 : b.fn = c.fn) (h2 : b.kind = .normal) (h3 : b.roundOf = c.ro) (h4 : c.ro ≠ none → cs ≠ []) (h5 : a.defers = c.ds) (h6 : Kn c.func.ntmps K a)
    (h7 : Inv ops D V a) (h8 : G w (L ++ A) hx hr) : Run c b a (.inRegion ops.toArray (i :: l) :: k) cs w hx hr := by
  have hKD := Kn.KD (o := o) h6 h7 hdeps
  obtain ⟨v, w', H', hx2, hr2, q, g', st, s⟩ := hop ops.toArray b a cs k l i w hx hr (by simpa using ho) (wants_sound hw hKD) h2 h3 hKD h8
  have hlook : look ((i, v) :: V) i = some v := by rw [look_cons, if_pos rfl]
  have hInv0 : Inv ops D ((i, v) :: V) a := by
    intro m u hu hm p d hp hd
    rw [look_cons] at hu
    by_cases e : i = m
    · subst e; exact absurd hm hnD
    · rw [if_neg e] at hu; exact h7 m u hu hm p d hp hd
  obtain ⟨hI, hK⟩ := Inv.put hk h6 hInv0 ho hlook
  have hfar := far_done hC ho hdeps
  obtain ⟨L', A', hp, hre, hdt⟩ := h v H' q
  refine Run.step s st ?_
  refine hdt ?_ (fun m => m = i ∨ D m) l ?_ (Lin.closed hC ho hdeps) ?_ hrest b _ cs w' hx2 hr2 h0 h1 h2 h3 h4 ((put_defers a _ v).trans h5) hK hI ⟨g'.sat.perm hp, g'.own, g'.red, g'.dj⟩
  · intro m u hu hm
    rw [look_cons] at hu
    have hne : i ≠ m := fun e => hm (by simp [e])
    rw [if_neg hne] at hu
    have hmem := look_mem hu
    have hnd : ¬ (hv.contains m || (far ops i).contains m) = true := by
      intro hc
      apply hm
      refine List.mem_cons_of_mem _ (List.mem_map.2 ⟨(m, u), List.mem_filter.2 ⟨hmem, hc⟩, rfl⟩)
    have hl : (m, u) ∈ lateOf ops V hv i := List.mem_filter.2 ⟨hmem, by simpa using hnd⟩
    exact (hre.get _ hl).mono hi
  · intro m hm
    unfold inV
    rw [look_cons]
    split
    · rfl
    · rename_i hne
      rcases hm with rfl | hm
      · exact absurd rfl hne
      · exact hD m hm
  · intro m hm
    rcases List.mem_cons.1 hm with rfl | hm
    · exact .inl rfl
    · obtain ⟨p, hp, rfl⟩ := List.mem_map.1 hm
      have := (List.mem_filter.1 hp).2
      simp only [Bool.or_eq_true, List.contains_eq_mem, decide_eq_true_eq] at this
      rcases this with h | h
      · exact .inr (hH _ h)
      · exact .inr (hfar _ h)

/-- An operation that turns memory, all of it; those that may still come late give the same over what is left (L'). -/
theorem DT.heavy2 {ops : List Oper} {hs : List Nat} {L A : List Atom} {V : List (Nat × Value)} {hv : List Nat} (hk : dstsOk c.func.ntmps K ops [] = true) (i : Nat) {o : Oper} {Q : Value → List Atom → Prop} (_ : nextHeavy V hs = some i) (hi : inV V i = false)
    (ho : ops[i]? = some o) (hcl : closedBut V i ops 0 = true) (hw : wants ops (KD ops V o K) o = some true) (hop : Op1 c o (KD ops V o K) (L ++ A) Q)
    {lt : List (Nat × Value)} {dn : List Nat} (hlt : lateOf ops V hv i = lt) (hdn : doneOf ops V hv i = dn)
    (h : ∀ v H', Q v H' → ∃ L' A', H'.Perm (L' ++ A') ∧ ReLt c ops K L' V lt ∧ DT c ops hs k K L' ((i, v) :: V) (i :: dn) A') : DT c ops hs k K L V hv A := by
  subst hlt
  subst hdn
  intro hl D l hD hC hH hlin
  refine DT.lights hk hl ?_ l D hD hC hH hlin
  intro D l hD hC hH hlin hcase b a cs w hx hr' h0 h1 h2 h3 h4 h5 h6 h7 h8
  rcases hcase with rfl | ⟨j, l', rfl, hj⟩
  · cases hlin with
    | nil hall =>
      have hil : i < ops.length := (List.getElem?_eq_some_iff.1 ho).1
      have := hD i (hall i hil)
      rw [hi] at this; cases this
  · cases hlin with
    | @cons _ _ p _ hp hnD hdeps hrest =>
      have hrp : readyV V p = true := List.all_eq_true.2 fun q hq => hD q (hdeps q hq)
      have hji : j = i := by
        rcases closedBut_spec hcl j p hp hrp with h | h
        · rw [Nat.zero_add, hj] at h; cases h
        · omega
      subst hji
      rw [ho] at hp
      cases hp
      exact DT.heavyAt hk hi ho hw hop h hD hC hH hnD hdeps hrest h0 h1 h2 h3 h4 h5 h6 h7 h8

/-- All that is ready but two has come. -/
def closedBut2 (V : List (Nat × Value)) (i i' : Nat) : List Oper → Nat → Bool
  | [], _ => true
  | o :: l, n => (inV V n || Nat.beq n i || Nat.beq n i' || !readyV V o) && closedBut2 V i i' l (n + 1)
theorem closedBut2_spec {V : List (Nat × Value)} {i i' : Nat} : ∀ {l : List Oper} {n : Nat}, closedBut2 V i i' l n = true → ∀ j o, l[j]? = some o → readyV V o = true → inV V (n + j) = true ∨ n + j = i ∨ n + j = i'
  | [], _, _, j, o, h, _ => by simp at h
  | p :: l, n, hc, j, o, h, hr => by
    simp only [closedBut2, Bool.and_eq_true, Bool.or_eq_true] at hc
    cases j with
    | zero =>
      simp at h; subst h
      rcases hc.1 with ((h1 | h1) | h1) | h1
      · exact .inl h1
      · exact .inr (.inl (Nat.eq_of_beq_eq_true h1))
      · exact .inr (.inr (Nat.eq_of_beq_eq_true h1))
      · rw [hr] at h1; cases h1
    | succ j =>
      have := closedBut2_spec hc.2 j o (by simpa using h) hr
      rw [show n + (j + 1) = n + 1 + j from by omega]
      exact this
/-- Two operations that turn memory may come in either order. -/
theorem DT.two {ops : List Oper} {hs : List Nat} {L A : List Atom} {V : List (Nat × Value)} {hv : List Nat} (hk : dstsOk c.func.ntmps K ops [] = true) (i i' : Nat) {o o' : Oper} {Q Q' : Value → List Atom → Prop} (hi : inV V i = false) (hi' : inV V i' = false)
    (ho : ops[i]? = some o) (ho' : ops[i']? = some o') (hcl : closedBut2 V i i' ops 0 = true) (hw : wants ops (KD ops V o K) o = some true) (hw' : wants ops (KD ops V o' K) o' = some true)
    (hop : Op1 c o (KD ops V o K) (L ++ A) Q) (hop' : Op1 c o' (KD ops V o' K) (L ++ A) Q')
    {lt lt' : List (Nat × Value)} {dn dn' : List Nat} (hlt : lateOf ops V hv i = lt) (hdn : doneOf ops V hv i = dn) (hlt' : lateOf ops V hv i' = lt') (hdn' : doneOf ops V hv i' = dn')
    (h : ∀ v H', Q v H' → ∃ L' A', H'.Perm (L' ++ A') ∧ ReLt c ops K L' V lt ∧ DT c ops hs k K L' ((i, v) :: V) (i :: dn) A')
    (h' : ∀ v H', Q' v H' → ∃ L' A', H'.Perm (L' ++ A') ∧ ReLt c ops K L' V lt' ∧ DT c ops hs k K L' ((i', v) :: V) (i' :: dn') A') : DT c ops hs k K L V hv A := by
  subst hlt
  subst hdn
  subst hlt'
  subst hdn'
  intro hl D l hD hC hH hlin
  refine DT.lights hk hl ?_ l D hD hC hH hlin
  intro D l hD hC hH hlin hcase b a cs w hx hr' h0 h1 h2 h3 h4 h5 h6 h7 h8
  rcases hcase with rfl | ⟨j, l', rfl, hj⟩
  · cases hlin with
    | nil hall =>
      have hil : i < ops.length := (List.getElem?_eq_some_iff.1 ho).1
      have := hD i (hall i hil)
      rw [hi] at this; cases this
  · cases hlin with
    | @cons _ _ p _ hp hnD hdeps hrest =>
      have hrp : readyV V p = true := List.all_eq_true.2 fun q hq => hD q (hdeps q hq)
      have hji : j = i ∨ j = i' := by
        rcases closedBut2_spec hcl j p hp hrp with h | h
        · rw [Nat.zero_add, hj] at h; cases h
        · omega
      rcases hji with rfl | rfl
      · rw [ho] at hp
        cases hp
        exact DT.heavyAt hk hi ho hw hop h hD hC hH hnD hdeps hrest h0 h1 h2 h3 h4 h5 h6 h7 h8
      · rw [ho'] at hp
        cases hp
        exact DT.heavyAt hk hi' ho' hw' hop' h' hD hC hH hnD hdeps hrest h0 h1 h2 h3 h4 h5 h6 h7 h8

theorem perm_of_take {H Pre : List Atom} (h : Take H Pre []) : H.Perm Pre := by simpa using h.perm

theorem eqI_self (n : Int) : eqI n n = true := eqI_true.2 rfl
/-- Some atoms are told ahead of the others. -/
theorem perm_front {H Pre F : List Atom} (h : Take H Pre F) : H.Perm (Pre ++ F) := h.perm
end Go.SL
