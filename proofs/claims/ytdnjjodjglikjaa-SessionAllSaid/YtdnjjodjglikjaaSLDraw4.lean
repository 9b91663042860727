/- Drawn regions of light operations alone, of which some write slots that others read before. No program is named here. -/
import Derived.Test.YtdnjjodjglikjaaSLDraw3
namespace Go.SL
open Go

variable {c : Cx} {k : List Item} {K : List (Nat × Value)}

/-- May operation i read slot d at any time? Only if all that write it come behind i. -/
def safeT : List Oper → Nat → Nat → Nat → Bool
  | [], _, _, _ => true
  | p :: l, j, i, d => (match p.dst with | some e => !(Nat.beq e d) || Nat.beq j i || (deps p).any (Nat.beq i) | none => true) && safeT l (j + 1) i d
def keepT (ops : List Oper) (i : Nat) : List (Nat × Value) → List (Nat × Value)
  | [] => []
  | (d, v) :: K => bif safeT ops 0 i d then (d, v) :: keepT ops i K else keepT ops i K
def freeT : List Oper → Nat → Bool
  | [], _ => true
  | p :: l, d => (match p.dst with | some e => !(Nat.beq e d) | none => true) && freeT l d
def keepE (ops : List Oper) : List (Nat × Value) → List (Nat × Value)
  | [] => []
  | (d, v) :: K => bif freeT ops d then (d, v) :: keepE ops K else keepE ops K
theorem safeT_spec {i d : Nat} : ∀ {l : List Oper} {n : Nat}, safeT l n i d = true → ∀ j p, l[j]? = some p → p.dst = some d → n + j = i ∨ i ∈ deps p
  | [], _, _, j, p, h, _ => by simp at h
  | q :: l, n, hs, j, p, h, hd => by
    simp only [safeT, Bool.and_eq_true] at hs
    cases j with
    | zero =>
      simp at h; subst h
      have h1 := hs.1
      simp only [hd, Bool.or_eq_true, Bool.not_eq_true', List.any_eq_true] at h1
      rcases h1 with (h1 | h1) | ⟨x, hx, h1⟩
      · simp at h1
      · exact .inl (Nat.eq_of_beq_eq_true h1)
      · exact .inr (by rw [Nat.eq_of_beq_eq_true h1]; exact hx)
    | succ j =>
      have := safeT_spec hs.2 j p (by simpa using h) hd
      rwa [Nat.add_assoc, Nat.add_comm 1 j] at this
theorem freeT_spec {d : Nat} : ∀ {l : List Oper}, freeT l d = true → ∀ (j : Nat) p, l[j]? = some p → p.dst ≠ some d
  | [], _, j, p, h => by simp at h
  | q :: l, hs, j, p, h => by
    simp only [freeT, Bool.and_eq_true] at hs
    cases j with
    | zero =>
      simp at h; subst h
      intro hd
      have h1 := hs.1
      simp [hd] at h1
    | succ j => exact freeT_spec hs.2 j p (by simpa using h)
theorem look_keepT {ops : List Oper} {i t : Nat} {v : Value} : ∀ {K : List (Nat × Value)}, look (keepT ops i K) t = some v → look K t = some v ∧ safeT ops 0 i t = true
  | [], h => by simp [keepT, look] at h
  | (d, u) :: K, h => by
    unfold keepT at h
    cases hs : safeT ops 0 i d with
    | true =>
      rw [hs, cond_true, look_cons] at h
      by_cases e : d = t
      · subst e
        rw [if_pos rfl] at h
        exact ⟨by rw [look_cons, if_pos rfl]; exact h, hs⟩
      · rw [if_neg e] at h
        obtain ⟨h1, h2⟩ := look_keepT h
        exact ⟨by rw [look_cons, if_neg e]; exact h1, h2⟩
    | false =>
      rw [hs, cond_false] at h
      obtain ⟨h1, h2⟩ := look_keepT h
      have e : d ≠ t := fun e => by subst e; rw [hs] at h2; cases h2
      exact ⟨by rw [look_cons, if_neg e]; exact h1, h2⟩
theorem look_keepE {ops : List Oper} {t : Nat} {v : Value} : ∀ {K : List (Nat × Value)}, look (keepE ops K) t = some v → look K t = some v ∧ freeT ops t = true
  | [], h => by simp [keepE, look] at h
  | (d, u) :: K, h => by
    unfold keepE at h
    cases hs : freeT ops d with
    | true =>
      rw [hs, cond_true, look_cons] at h
      by_cases e : d = t
      · subst e
        rw [if_pos rfl] at h
        exact ⟨by rw [look_cons, if_pos rfl]; exact h, hs⟩
      · rw [if_neg e] at h
        obtain ⟨h1, h2⟩ := look_keepE h
        exact ⟨by rw [look_cons, if_neg e]; exact h1, h2⟩
    | false =>
      rw [hs, cond_false] at h
      obtain ⟨h1, h2⟩ := look_keepE h
      have e : d ≠ t := fun e => by subst e; rw [hs] at h2; cases h2
      exact ⟨by rw [look_cons, if_neg e]; exact h1, h2⟩

def KnT (N : Nat) (K : List (Nat × Value)) (ops : List Oper) (D : Nat → Prop) (a : Act) : Prop :=
  N ≤ a.tmps.size ∧ ∀ t v, look K t = some v → (∀ (j : Nat) p, ops[j]? = some p → p.dst = some t → ¬ D j) → a.tmps[t]? = some v
theorem KnT.keep {N : Nat} {ops : List Oper} {D : Nat → Prop} {a : Act} {i : Nat} (h : KnT N K ops D a) (hD : ¬ D i) (hC : ∀ (i : Nat) (o : Oper), ops[i]? = some o → D i → ∀ j ∈ deps o, D j) : Kn N (keepT ops i K) a := by
  refine ⟨h.1, fun t v hv => ?_⟩
  obtain ⟨h1, h2⟩ := look_keepT hv
  refine h.2 t v h1 fun j p hj hp hDj => ?_
  rcases safeT_spec h2 j p hj hp with e | e
  · rw [Nat.zero_add] at e; subst e; exact hD hDj
  · exact hD (hC j p hj hDj i e)
theorem KnT.fin {N : Nat} {ops : List Oper} {D : Nat → Prop} {a : Act} (h : KnT N K ops D a) : Kn N (keepE ops K) a := by
  refine ⟨h.1, fun t v hv => ?_⟩
  obtain ⟨h1, h2⟩ := look_keepE hv
  exact h.2 t v h1 fun j p hj hp => absurd hp (freeT_spec h2 j p hj)
theorem KnT.put {N : Nat} {ops : List Oper} {D : Nat → Prop} {a : Act} {i : Nat} {o : Oper} {v : Value} (h : KnT N K ops D a) (ho : ops[i]? = some o) : KnT N K ops (fun j => j = i ∨ D j) (a.put o.dst v) := by
  refine ⟨by cases o.dst <;> simp [Act.put] <;> exact h.1, fun t u hu hw => ?_⟩
  have h2 := h.2 t u hu fun j p hj hp hD => hw j p hj hp (.inr hD)
  cases hod : o.dst with
  | none => simp only [Act.put]; exact h2
  | some di =>
    simp only [Act.put, Array.getElem?_setIfInBounds]
    have : di ≠ t := fun e => by subst e; exact hw i o ho hod (.inl rfl)
    rw [if_neg this]
    exact h2

def DTL (c : Cx) (ops : List Oper) (k : List Item) (K : List (Nat × Value)) (L : List Atom) (V : List (Nat × Value)) (A : List Atom) : Prop :=
  (∀ i v, look V i = some v → Lt c ops (keepT ops i K) L V i v) →
  ∀ (l : List Nat), Lin ops (fun _ => False) l →
  ∀ (b : Frame) (a : Act) (cs : List Frame) (w : World) (hx hr : Hp), c.P.funcs[c.fn]? = some c.func → b.fn = c.fn → b.kind = .normal → b.roundOf = c.ro →
    (c.ro ≠ none → cs ≠ []) → a.defers = c.ds → Kn c.func.ntmps K a → G w (L ++ A) hx hr → Run c b a (.inRegion ops.toArray l :: k) cs w hx hr
theorem DTL.light {ops : List Oper} {L A : List Atom} {V : List (Nat × Value)} (i : Nat) {o : Oper} {v : Value} (_ : firstReady [] V ops 0 = some i) (hi : inV V i = false) (ho : ops[i]? = some o)
    (hr : readyV V o = true) (hw : wants ops (KD ops V o (keepT ops i K)) o = some true) (hop : Op1 c o (KD ops V o (keepT ops i K)) L (ret v L)) (h : DTL c ops k K L ((i, v) :: V) A) : DTL c ops k K L V A := by
  intro hl
  refine h ?_
  intro j u hu
  rw [look_cons] at hu
  by_cases e : i = j
  · subst e
    rw [if_pos rfl] at hu
    cases hu
    exact Lt.mono ⟨o, ho, hr, .inl ⟨hw, hop⟩⟩ hi
  · rw [if_neg e] at hu
    exact (hl j u hu).mono hi
theorem DTL.pass {ops : List Oper} {L A : List Atom} {V : List (Nat × Value)} (i : Nat) {o : Oper} (_ : firstReady [] V ops 0 = some i) (hi : inV V i = false) (ho : ops[i]? = some o)
    (hr : readyV V o = true) (hw : wants ops (KD ops V o (keepT ops i K)) o = some false) (h : DTL c ops k K L ((i, undef) :: V) A) : DTL c ops k K L V A := by
  intro hl
  refine h ?_
  intro j u hu
  rw [look_cons] at hu
  by_cases e : i = j
  · subst e
    rw [if_pos rfl] at hu
    cases hu
    exact Lt.mono ⟨o, ho, hr, .inr ⟨hw, rfl⟩⟩ hi
  · rw [if_neg e] at hu
    exact (hl j u hu).mono hi
theorem DTL.go {ops : List Oper} {L A : List Atom} {V : List (Nat × Value)} (hk : dstsOk c.func.ntmps [] ops [] = true) (hall : allV V ops 0 = true)
    (hl : ∀ i v, look V i = some v → Lt c ops (keepT ops i K) L V i v)
    (fin : ∀ (b : Frame) (a : Act) (cs : List Frame) (w : World) (hx hr : Hp), c.P.funcs[c.fn]? = some c.func → b.fn = c.fn → b.kind = .normal → b.roundOf = c.ro →
        (c.ro ≠ none → cs ≠ []) → a.defers = c.ds → Kn c.func.ntmps (keepE ops K) a → Inv ops (fun _ => True) V a → G w (L ++ A) hx hr → Run c b a (.inRegion ops.toArray [] :: k) cs w hx hr) :
    ∀ (l : List Nat) (D : Nat → Prop), (∀ (i : Nat) (o : Oper), ops[i]? = some o → D i → ∀ j ∈ deps o, D j) → Lin ops D l →
      ∀ (b : Frame) (a : Act) (cs : List Frame) (w : World) (hx hr : Hp), c.P.funcs[c.fn]? = some c.func → b.fn = c.fn → b.kind = .normal → b.roundOf = c.ro →
        (c.ro ≠ none → cs ≠ []) → a.defers = c.ds → KnT c.func.ntmps K ops D a → Inv ops D V a → G w (L ++ A) hx hr → Run c b a (.inRegion ops.toArray l :: k) cs w hx hr
  | [], D, hC, hlin => by
    intro b a cs w hx hr h0 h1 h2 h3 h4 h5 h6 h7 h8
    cases hlin with
    | nil hi =>
      have hI : Inv ops (fun _ => True) V a := fun i v hv _ o d ho hd => h7 i v hv (hi i (List.getElem?_eq_some_iff.1 ho).1) o d ho hd
      exact fin b a cs w hx hr h0 h1 h2 h3 h4 h5 h6.fin hI h8
  | i :: l, D, hC, hlin => by
    intro b a cs w hx hr h0 h1 h2 h3 h4 h5 h6 h7 h8
    cases hlin with
    | @cons _ _ o _ ho hnD hdeps hrest =>
      have hin : inV V i = true := by
        have := allV_spec hall i (List.getElem?_eq_some_iff.1 ho).1
        rwa [Nat.zero_add] at this
      obtain ⟨v, hv'⟩ := Option.isSome_iff_exists.1 hin
      obtain ⟨w', hx', hr', g', st, s⟩ := (hl i v hv').run (k := k) (cs := cs) (l := l) ho hdeps h2 h3 (h6.keep hnD hC) h7 h8
      have hI := (Inv.put hk (K := []) ⟨h6.1, fun t u hu => by simp [look] at hu⟩ h7 ho hv').1
      refine Run.step s st ?_
      exact DTL.go hk hall hl fin l (fun j => j = i ∨ D j) (Lin.closed hC ho hdeps) hrest b _ cs w' hx' hr' h0 h1 h2 h3 h4 ((put_defers a _ v).trans h5) (h6.put ho) hI g'
theorem DTL.done {ops : List Oper} {L A : List Atom} {V : List (Nat × Value)} (hk : dstsOk c.func.ntmps [] ops [] = true) (hall : allV V ops 0 = true) (hnd : nodupV V = true) (h : T c k (outV ops V ++ keepE ops K) (L ++ A)) : DTL c ops k K L V A := by
  intro hl l hlin b a cs w hx hr h0 h1 h2 h3 h4 h5 h6 h8
  refine DTL.go hk hall hl ?_ l (fun _ => False) (fun _ _ _ h => h.elim) hlin b a cs w hx hr h0 h1 h2 h3 h4 h5 ⟨h6.1, fun t v hv _ => h6.2 t v hv⟩ (fun i v hv hD => hD.elim) h8
  intro b a cs w hx hr h0 h1 h2 h3 h4 h5 h6 h7 h8
  exact Run.step (.one stepR_region_end) (Stp.refl w hx hr) (h b a cs w hx hr h0 h1 h2 h3 h4 h5 (h6.outV h7 hnd) h8)
theorem T.drawL {id : Nat} {ops : List Oper} {K' : List (Nat × Value)} {H L A : List Atom} (hm : c.P.follows .mixedOrders = true) (hac : acyclic ops = true) (hK : SubK K' K) (hp : H.Perm (L ++ A))
    (h : DTL c ops k K' L [] A) : T c (.code (.region id ops.toArray true) :: k) K H := by
  intro b a cs w hx hr h0 h1 h2 h3 h4 h5 h6 h7
  have hstep := stepR_region_draw (P := c.P) (b := b) (a := a) (k := k) (cs := cs) (w := w) (ops := ops.toArray) (id := id)
  have hsch : ∀ t, Region.schedule (c.P.follows .mixedOrders) ops.toArray t = Region.linearise .any ops.toArray t := fun t => by unfold Region.schedule; rw [hm]; rfl
  rw [hsch] at hstep
  have g : G { w with drawn := w.drawn + 1 } (L ++ A) hx hr := ⟨h7.sat.perm hp, h7.own, h7.red, h7.dj⟩
  have st : Stp w hx hr { w with drawn := w.drawn + 1 } hx hr := ⟨rfl, rfl, rfl, Nat.le_refl _, fun _ _ _ => rfl, fun _ h _ => h, Hp.le_refl _, fun _ _ h _ => h⟩
  refine Run.step (.one hstep) st ?_
  exact h (fun i v hv => by simp [look] at hv) _ (lin_linearise hac _) b a cs _ hx hr h0 h1 h2 h3 h4 h5 (h6.sub hK) g
end Go.SL
