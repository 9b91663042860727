/- What a frame does from its work list on, over what one owns: the judgement, its rules for control, and what an operation does. No program is named here; no conditions. -/
import Derived.Test.YtdnjjodjglikjaaSLCore
namespace Go.SL
open Go

/-! ### Slots -/
def look : List (Nat × Value) → Nat → Option Value
  | [], _ => none
  | (n, v) :: K, t => match Nat.beq n t with | true => some v | false => look K t

def Kn (N : Nat) (K : List (Nat × Value)) (a : Act) : Prop := N ≤ a.tmps.size ∧ ∀ t v, look K t = some v → a.tmps[t]? = some v

def evK (K : List (Nat × Value)) : Operand → Option Value
  | .tmp t => look K t
  | .const v => some v
  | .global g => some (.pointer (some ⟨g, 0, none⟩))
  | .func f => some (.func (.func f) #[] #[])

def evKs (K : List (Nat × Value)) : List Operand → Option (List Value)
  | [] => some []
  | x :: xs => match evK K x with
    | some v => match evKs K xs with
      | some vs => some (v :: vs)
      | none => none
    | none => none

variable {N : Nat} {K : List (Nat × Value)} {a : Act}

theorem Kn.eval (h : Kn N K a) {x : Operand} {v : Value} (e : evK K x = some v) : a.eval x = v := by
  cases x with
  | tmp t =>
    have := h.2 t v e
    simp [Act.eval, Array.getD_eq_getD_getElem?, this]
  | const u => simpa [evK, Act.eval] using e
  | global g => simpa [evK, Act.eval] using e
  | func f => simpa [evK, Act.eval] using e
theorem Kn.evals (h : Kn N K a) : ∀ {xs : List Operand} {vs : List Value}, evKs K xs = some vs → xs.map a.eval = vs
  | [], vs, e => by simp [evKs] at e; simp [e]
  | x :: xs, vs, e => by
    simp only [evKs] at e
    split at e
    · rename_i v hv
      split at e
      · rename_i us hus
        simp only [Option.some.injEq] at e
        subst e
        simp [h.eval hv, h.evals hus]
      · cases e
    · cases e
theorem look_cons (n : Nat) (v : Value) (K : List (Nat × Value)) (t : Nat) : look ((n, v) :: K) t = if n = t then some v else look K t := by
  by_cases h : n = t
  · subst h; simp [look]
  · have hb : Nat.beq n t = false := by
      cases hb : Nat.beq n t with
      | false => rfl
      | true => exact absurd (Nat.eq_of_beq_eq_true hb) h
    simp [look, h, hb]
theorem Kn.put (h : Kn N K a) {d : Nat} (hd : Nat.blt d N = true) (v : Value) : Kn N ((d, v) :: K) (a.put (some d) v) := by
  have hd' : d < N := by simpa using hd
  refine ⟨by simpa [Act.put] using h.1, fun t u e => ?_⟩
  rw [look_cons] at e
  have h1 := h.1
  simp only [Act.put, Array.getElem?_setIfInBounds]
  by_cases hdt : d = t
  · subst hdt
    simp only [if_true, Option.some.injEq] at e
    subst e
    rw [if_pos rfl, if_pos (by omega)]
  · rw [if_neg hdt] at e ⊢
    exact h.2 t u e
/-- What is known of fewer slots. -/
def SubK : List (Nat × Value) → List (Nat × Value) → Prop
  | [], _ => True
  | (t, v) :: K', K => look K t = some v ∧ SubK K' K
theorem Kn.sub {K' : List (Nat × Value)} (h : Kn N K a) (s : SubK K' K) : Kn N K' a := by
  refine ⟨h.1, ?_⟩
  induction K' with
  | nil => intro t v e; simp [look] at e
  | cons p K' ih =>
    intro t v e
    obtain ⟨n, u⟩ := p
    rw [look_cons] at e
    by_cases hn : n = t
    · subst hn
      rw [if_pos rfl] at e
      simp only [Option.some.injEq] at e
      subst e
      exact h.2 _ _ s.1
    · rw [if_neg hn] at e
      exact ih s.2 t v e

/-! ### Parts of a list of atoms -/
inductive Pick : Atom → List Atom → List Atom → Prop
  | here {A : Atom} {H : List Atom} : Pick A (A :: H) H
  | there {A B : Atom} {H H' : List Atom} : Pick A H H' → Pick A (B :: H) (B :: H')
theorem Pick.perm {A : Atom} {H H' : List Atom} (p : Pick A H H') : H.Perm (A :: H') := by
  induction p with
  | here => exact .refl _
  | there _ ih => exact (ih.cons _).trans (.swap _ _ _)
theorem Pick.mem {A : Atom} {H H' : List Atom} (p : Pick A H H') : A ∈ H := p.perm.mem_iff.2 (by simp)

inductive Split : List Atom → List Atom → List Atom → Prop
  | nil {H : List Atom} : Split H [] H
  | own {A : Atom} {H H1 Pre F : List Atom} : Pick A H H1 → Split H1 Pre F → Split H (A :: Pre) F
  | ro {A : Atom} {H H1 Pre F : List Atom} : A.ro → Pick A H H1 → Split H Pre F → Split H (A :: Pre) F
  | fact {p : Prop} {H Pre F : List Atom} : p → Split H Pre F → Split H (SL.fact p :: Pre) F
  | ex {α : Type} {f : α → List Atom} {H Pre F : List Atom} (x : α) : Split H (f x ++ Pre) F → Split H (SL.ex f :: Pre) F

theorem Sat.pick {A : Atom} {H H' : List Atom} {hx hr : Hp} (p : Pick A H H') (s : Sat H hx hr) : ∃ h1 h2, Join hx h1 h2 ∧ A.sat h1 hr ∧ Sat H' h2 hr := s.perm p.perm
theorem Sat.split {H Pre F : List Atom} (p : Split H Pre F) : ∀ {hx hr : Hp}, Sat H hx hr → ∃ h1 h2, Join hx h1 h2 ∧ Sat Pre h1 hr ∧ Sat F h2 hr := by
  induction p with
  | nil => exact fun {hx hr} h => ⟨emp, hx, .emp_left hx, fun _ => rfl, h⟩
  | own p _ ih =>
    intro hx hr s
    obtain ⟨h1, h2, j, a, r⟩ := s.pick p
    obtain ⟨h3, h4, j', b, f⟩ := ih r
    obtain ⟨l, j1, j2⟩ := j.assoc' j'
    exact ⟨l, h4, j1, ⟨h1, h3, j2, a, b⟩, f⟩
  | ro ro p _ ih =>
    intro hx hr s
    obtain ⟨h1, h2, _, a, _⟩ := s.pick p
    obtain ⟨h3, h4, j', b, f⟩ := ih s
    have he : h1 = emp := funext fun k => ro _ _ a k
    exact ⟨h3, h4, j', ⟨emp, h3, .emp_left h3, he ▸ a, b⟩, f⟩
  | fact hp _ ih =>
    intro hx hr s
    obtain ⟨h3, h4, j', b, f⟩ := ih s
    exact ⟨h3, h4, j', ⟨emp, h3, .emp_left h3, ⟨fun _ => rfl, hp⟩, b⟩, f⟩
  | ex x _ ih =>
    intro hx hr s
    obtain ⟨h3, h4, j', b, f⟩ := ih s
    obtain ⟨h5, h6, j'', b1, b2⟩ := Sat.append.1 b
    exact ⟨h3, h4, j', ⟨h5, h6, j'', ⟨x, b1⟩, b2⟩, f⟩

theorem G.split {w : World} {H Pre F : List Atom} {hx hr : Hp} (g : G w H hx hr) (p : Split H Pre F) :
    ∃ h1 h2, Join hx h1 h2 ∧ G w Pre h1 hr ∧ Sat F h2 hr := by
  obtain ⟨h1, h2, j, a, f⟩ := g.sat.split p
  exact ⟨h1, h2, j, ⟨a, fun k o e => g.own k o (j.left e), g.red, fun k => (g.dj k).imp (fun h => (j.isNone.1 h).1) id⟩, f⟩
theorem G.drop {w : World} {H H' F : List Atom} {hx hr : Hp} (g : G w H hx hr) (p : Split H H' F) :
    ∃ hx', G w H' hx' hr ∧ Stp w hx hr w hx' hr := by
  obtain ⟨h1, h2, j, g', _⟩ := g.split p
  exact ⟨h1, g', ⟨rfl, rfl, rfl, Nat.le_refl _, fun _ _ _ => rfl, fun k h _ => (j.isNone.1 h).1, Hp.le_refl _, fun _ _ h _ => h⟩⟩

/-! ### The judgement -/
structure Cx where
  P : Program
  ro : Option Nat
  fn : FuncId
  func : Func
  Post : Value → List Atom → Prop
  ds : List Deferred

def EndsAt (c : Cx) (cs : List Frame) (v : Value) (w' : World) (m' : Machine) : Prop :=
  match c.ro with
  | none => ∃ fr, m' = lone fr cs w' ∧ fr.fn = c.fn ∧ fr.leaving c.P w' (.returned v)
  | some _ => ∃ c0 cs', cs = c0 :: cs' ∧ m' = lone (c0.finish v) cs' w'

def Run (c : Cx) (b : Frame) (a : Act) (todo : List Item) (cs : List Frame) (w : World) (hx hr : Hp) : Prop :=
  ∃ v w' m' H' hx' hr', c.Post v H' ∧ G w' H' hx' hr' ∧ Stp w hx hr w' hx' hr' ∧ Steps c.P (lone (b.atR a todo) cs w) m' ∧ EndsAt c cs v w' m'

def T (c : Cx) (todo : List Item) (K : List (Nat × Value)) (H : List Atom) : Prop :=
  ∀ (b : Frame) (a : Act) (cs : List Frame) (w : World) (hx hr : Hp), c.P.funcs[c.fn]? = some c.func → b.fn = c.fn → b.kind = .normal → b.roundOf = c.ro →
    (c.ro ≠ none → cs ≠ []) → a.defers = c.ds → Kn c.func.ntmps K a → G w H hx hr → Run c b a todo cs w hx hr

variable {c : Cx} {k : List Item} {H : List Atom}

theorem Run.step {b : Frame} {a a' : Act} {t t' : List Item} {cs : List Frame} {w w' : World} {hx hr hx' hr' : Hp}
    (s : Steps c.P (lone (b.atR a t) cs w) (lone (b.atR a' t') cs w')) (st : Stp w hx hr w' hx' hr') (h : Run c b a' t' cs w' hx' hr') : Run c b a t cs w hx hr := by
  obtain ⟨v, w2, m, H', hx2, hr2, p, g, st2, s2, e⟩ := h
  exact ⟨v, w2, m, H', hx2, hr2, p, g, st.trans st2, s.trans s2, e⟩

theorem T.of_step {t t' : List Item} (hs : ∀ (b : Frame) (a : Act) (cs : List Frame) (w : World), step c.P (lone (b.atR a t) cs w) = .next (lone (b.atR a t') cs w))
    (h : T c t' K H) : T c t K H :=
  fun b a cs w hx hr h0 h1 h2 h3 h4 h5 h6 h7 => Run.step (.one (hs b a cs w)) (Stp.refl w hx hr) (h b a cs w hx hr h0 h1 h2 h3 h4 h5 h6 h7)

theorem T.seq {x y : Code} (h : T c (.code x :: .code y :: k) K H) : T c (.code (.seq x y) :: k) K H := T.of_step (fun _ _ _ _ => stepR_seq) h
theorem T.skip (h : T c k K H) : T c (.code .skip :: k) K H := T.of_step (fun _ _ _ _ => stepR_skip) h
theorem T.label {l : Nat} (h : T c k K H) : T c (.code (.label l) :: k) K H := T.of_step (fun _ _ _ _ => stepR_label) h
theorem T.inBlock {id : Nat} (h : T c k K H) : T c (.inBlock id :: k) K H := T.of_step (fun _ _ _ _ => stepR_inBlock) h
theorem T.block {id : Nat} {x : Code} (h : T c (.code x :: .inBlock id :: k) K H) : T c (.code (.block id x) :: k) K H := T.of_step (fun _ _ _ _ => stepR_block) h
theorem T.exit {id : Nat} {k' : List Item} (e : exitTo id k = some k') (h : T c k' K H) : T c (.code (.exit id) :: k) K H := T.of_step (fun _ _ _ _ => stepR_exit e) h
theorem T.cond {x : Operand} {y z : Code} (t : Bool) (e : evK K x = some (.bool t)) (hy : t = true → T c (.code y :: k) K H) (hz : t = false → T c (.code z :: k) K H) :
    T c (.code (.cond x y z) :: k) K H := by
  intro b a cs w hx hr h0 h1 h2 h3 h4 h5 h6 h7
  have he := h6.eval e
  have hs := stepR_cond (P := c.P) (b := b) (k := k) (cs := cs) (w := w) (x := y) (y := z) he
  refine Run.step (.one hs) (Stp.refl w hx hr) ?_
  cases t with
  | true => exact hy rfl b a cs w hx hr h0 h1 h2 h3 h4 h5 h6 h7
  | false => exact hz rfl b a cs w hx hr h0 h1 h2 h3 h4 h5 h6 h7
theorem T.cond_true {x : Operand} {y z : Code} (e : evK K x = some (.bool true)) (h : T c (.code y :: k) K H) : T c (.code (.cond x y z) :: k) K H := T.cond true e (fun _ => h) (fun h => nomatch h)
theorem T.cond_false {x : Operand} {y z : Code} (e : evK K x = some (.bool false)) (h : T c (.code z :: k) K H) : T c (.code (.cond x y z) :: k) K H := T.cond false e (fun h => nomatch h) (fun _ => h)
/-- Less is known, less is owned. -/
theorem T.weak {K' : List (Nat × Value)} {H' F : List Atom} {t : List Item} (s : SubK K' K) (p : Split H H' F) (h : T c t K' H') : T c t K H := by
  intro b a cs w hx hr h0 h1 h2 h3 h4 h5 h6 h7
  obtain ⟨hx', g, st⟩ := h7.drop p
  obtain ⟨v, w2, m, H2, hx2, hr2, p2, g2, st2, s2, e2⟩ := h b a cs w hx' hr h0 h1 h2 h3 h4 h5 (h6.sub s) g
  exact ⟨v, w2, m, H2, hx2, hr2, p2, g2, st.trans st2, s2, e2⟩
theorem T.forget {K' : List (Nat × Value)} {t : List Item} (s : SubK K' K) (h : T c t K' H) : T c t K H :=
  fun b a cs w hx hr h0 h1 h2 h3 h4 h5 h6 h7 => h b a cs w hx hr h0 h1 h2 h3 h4 h5 (h6.sub s) h7
/-- A loop: a relation that holds at each round's head, and a measure. -/
theorem T.loop {α : Type} {body : Code} (μ : α → Nat) (S : α → List (Nat × Value) → List Atom → Prop) (x0 : α) (h0 : S x0 K H)
    (round : ∀ x K H, S x K H → (∀ y K' H', S y K' H' → μ y < μ x → T c (.inLoop body :: k) K' H') → T c (.code body :: .inLoop body :: k) K H) :
    T c (.code (.loop body) :: k) K H := by
  have key : ∀ n x K H, S x K H → μ x = n → T c (.code body :: .inLoop body :: k) K H := by
    intro n
    induction n using Nat.strongRecOn with
    | _ n ih =>
      intro x K H hS hn
      exact round x K H hS fun y K' H' hy hlt => T.of_step (fun _ _ _ _ => stepR_inLoop) (ih (μ y) (hn ▸ hlt) y K' H' hy rfl)
  exact T.of_step (fun _ _ _ _ => stepR_loop) (key _ x0 K H h0 rfl)
/-- What an atom says is taken out of it. -/
theorem T.fact {p : Prop} {t : List Item} (h : p → T c t K H) : T c t K (SL.fact p :: H) := by
  intro b a cs w hx hr h0 h1 h2 h3 h4 h5 h6 h7
  obtain ⟨h1', h2', j, ⟨e, hp⟩, s⟩ := h7.sat
  have := j.of_emp e
  subst this
  exact h hp b a cs w hx hr h0 h1 h2 h3 h4 h5 h6 ⟨s, h7.own, h7.red, h7.dj⟩
theorem T.ex {α : Type} {f : α → List Atom} {t : List Item} (h : ∀ x, T c t K (f x ++ H)) : T c t K (SL.ex f :: H) := by
  intro b a cs w hx hr h0 h1 h2 h3 h4 h5 h6 h7
  obtain ⟨h1', h2', j, ⟨x, s1⟩, s⟩ := h7.sat
  exact h x b a cs w hx hr h0 h1 h2 h3 h4 h5 h6 ⟨Sat.append.2 ⟨h1', h2', j, s1, s⟩, h7.own, h7.red, h7.dj⟩
theorem T.perm {H' : List Atom} {t : List Item} (p : H.Perm H') (h : T c t K H') : T c t K H :=
  fun b a cs w hx hr h0 h1 h2 h3 h4 h5 h6 h7 => h b a cs w hx hr h0 h1 h2 h3 h4 h5 h6 ⟨h7.sat.perm p, h7.own, h7.red, h7.dj⟩
/-- An atom is brought to the head. -/
theorem T.front {A : Atom} {H' : List Atom} {t : List Item} (p : Pick A H H') (h : T c t K (A :: H')) : T c t K H := T.perm p.perm h

/-! ### The end of a function -/
theorem T.ret {v : Value} {H' F : List Atom} (hro : c.ro = none) (hds : c.ds = [])
    (hres : ∀ a w hx hr, Kn c.func.ntmps K a → G w H hx hr → (results c.func a.tmps).run c.P w = .ok v w) (p : Split H H' F) (hp : c.Post v H') :
    T c (.code .ret :: k) K H := by
  intro b a cs w hx hr h0 h1 h2 h3 h4 h5 h6 h7
  obtain ⟨hx', g, st⟩ := h7.drop p
  refine ⟨v, w, _, H', hx', hr, hp, g, st, .one (stepR_ret (h3.trans hro)), ?_⟩
  unfold EndsAt
  rw [hro]
  exact ⟨_, rfl, h1, rfl, h5.trans hds, h2, c.func, by simpa [Frame.atR, h1] using h0, hres a w hx hr h6 h7⟩
theorem T.fin {v : Value} {H' F : List Atom} (hro : c.ro = none) (hds : c.ds = [])
    (hres : ∀ a w hx hr, Kn c.func.ntmps K a → G w H hx hr → (results c.func a.tmps).run c.P w = .ok v w) (p : Split H H' F) (hp : c.Post v H') :
    T c [] K H := by
  intro b a cs w hx hr h0 h1 h2 h3 h4 h5 h6 h7
  obtain ⟨hx', g, st⟩ := h7.drop p
  refine ⟨v, w, _, H', hx', hr, hp, g, st, .one (stepR_end (h3.trans hro)), ?_⟩
  unfold EndsAt
  rw [hro]
  exact ⟨_, rfl, h1, rfl, h5.trans hds, h2, c.func, by simpa [Frame.atR, h1] using h0, hres a w hx hr h6 h7⟩

/-! ### Operations -/
/-- Operation o, when its turn has come and its guard lets it, hands over v and leaves H', as Q says. -/
def Op1 (c : Cx) (o : Oper) (K : List (Nat × Value)) (H : List Atom) (Q : Value → List Atom → Prop) : Prop :=
  ∀ (ops : Array Oper) (b : Frame) (a : Act) (cs : List Frame) (k : List Item) (rest : List Nat) (i : Nat) (w : World) (hx hr : Hp), ops[i]? = some o →
    Region.wanted o (yielded ops a.tmps) = true → b.kind = .normal → b.roundOf = c.ro → Kn c.func.ntmps K a → G w H hx hr →
    ∃ v w' H' hx' hr', Q v H' ∧ G w' H' hx' hr' ∧ Stp w hx hr w' hx' hr' ∧
      Steps c.P (lone (b.atR a (.inRegion ops (i :: rest) :: k)) cs w) (lone (b.atR (a.put o.dst v) (.inRegion ops rest :: k)) cs w')

/-- Just this value, just this memory. -/
def ret (v : Value) (H : List Atom) : Value → List Atom → Prop := fun v' H' => v' = v ∧ H' = H

/-- What an operation's run gives, one step of the machine. -/
theorem Op1.of_run {o : Oper} {Q : Value → List Atom → Prop} (hd : ∀ x, o.op ≠ .defer x)
    (h : ∀ a w hx hr, Kn c.func.ntmps K a → G w H hx hr → ∃ v w' H' hx' hr', Q v H' ∧ G w' H' hx' hr' ∧ Stp w hx hr w' hx' hr' ∧
      ((execOp a.eval o).run c.P w = .ok (.value v) w' ∨ (v = undef ∧ (execOp a.eval o).run c.P w = .ok .skip w'))) : Op1 c o K H Q := by
  intro ops b a cs k rest i w hx hr ho hw hk hro hK hG
  obtain ⟨v, w', H', hx', hr', q, g, st, hrun⟩ := h a w hx hr hK hG
  refine ⟨v, w', H', hx', hr', q, g, st, .one (step_lone_go ?_)⟩
  have hg := stepGR_op (P := c.P) (b := b) (a := a) (k := k) (cs := cs) (w := w) (rest := rest) ho hw
  rw [Oper.semAt_eq _ _ _ hd] at hg
  have hfin : ∀ v, (b.atR a (.inRegion ops (i :: rest) :: k)).finish v = b.atR (a.put o.dst v) (.inRegion ops rest :: k) := by
    intro v; rw [Frame.finish_atR, ho]; rfl
  rcases hrun with hr' | ⟨rfl, hr'⟩
  · rw [hg, ← hfin]; simp [stepG.apply, hr']
  · rw [hg, ← hfin]; simp [stepG.apply, hr']
/-- The same where the memory that one owns stays as it is. -/
theorem Op1.of_val {o : Oper} (hd : ∀ x, o.op ≠ .defer x) (v : Value)
    (h : ∀ a w hx hr, Kn c.func.ntmps K a → G w H hx hr → (execOp a.eval o).run c.P w = .ok (.value v) w) : Op1 c o K H (ret v H) :=
  Op1.of_run hd fun a w hx hr hK hG => ⟨v, w, H, hx, hr, ⟨rfl, rfl⟩, hG, Stp.refl w hx hr, .inl (h a w hx hr hK hG)⟩
/-- Beside what stands aside. -/
theorem Op1.frame {o : Oper} {Pre F : List Atom} {Q : Value → List Atom → Prop} (p : Split H Pre F) (h : Op1 c o K Pre Q) :
    Op1 c o K H (fun v H' => ∃ H1, Q v H1 ∧ H' = H1 ++ F) := by
  intro ops b a cs k rest i w hx hr ho hw hk hro hK hG
  obtain ⟨h1, h2, j, g, f⟩ := hG.split p
  obtain ⟨v, w', H', hx', hr', q, g', st, s⟩ := h ops b a cs k rest i w h1 hr ho hw hk hro hK g
  obtain ⟨hx2, g2, st2⟩ := G.frame j hG.own hG.dj st g' f
  exact ⟨v, w', H' ++ F, hx2, hr', ⟨H', q, rfl⟩, g2, st2, s⟩
theorem Op1.mono {o : Oper} {Q Q' : Value → List Atom → Prop} (h : Op1 c o K H Q) (hq : ∀ v H', Q v H' → Q' v H') : Op1 c o K H Q' := by
  intro ops b a cs k rest i w hx hr ho hw hk hro hK hG
  obtain ⟨v, w', H', hx', hr', q, g', st, s⟩ := h ops b a cs k rest i w hx hr ho hw hk hro hK hG
  exact ⟨v, w', H', hx', hr', hq _ _ q, g', st, s⟩

/-- Does the guard let the operation run? none: not known. -/
def wantsV (want : Bool) : Value → Option Bool
  | .bool b => some (b == want)
  | .tuple _ => some false
  | _ => none
def wants (ops : List Oper) (K : List (Nat × Value)) (o : Oper) : Option Bool :=
  match o.guard with
  | none => some true
  | some (j, want) =>
    match ops[j]? with
    | some p => match p.dst with
      | some d => match look K d with
        | some v => wantsV want v
        | none => none
      | none => none
    | none => none
theorem wants_sound {ops : List Oper} {o : Oper} {x : Bool} (h : wants ops K o = some x) (hK : Kn N K a) : Region.wanted o (yielded ops.toArray a.tmps) = x := by
  unfold wants at h
  unfold Region.wanted
  cases hg : o.guard with
  | none => simp [hg] at h; simp [h]
  | some g =>
    obtain ⟨j, want⟩ := g
    simp only [hg] at h
    split at h
    · rename_i p hp
      split at h
      · rename_i d hdst
        split at h
        · rename_i v hl
          have := hK.2 _ _ hl
          cases v <;> simp only [wantsV, Option.some.injEq] at h <;> first | (cases h; done) | (subst h; simp [yielded, hp, hdst, this])
        · cases h
      · cases h
    · cases h

/-- The operations of a region that are still to come, in the text's order. -/
def TR (c : Cx) (ops l : List Oper) (k : List Item) (K : List (Nat × Value)) (H : List Atom) : Prop :=
  ∀ n, (∀ j, l[j]? = ops[n + j]?) → T c (.inRegion ops.toArray (List.range' n l.length) :: k) K H

theorem T.region {id : Nat} {ops : List Oper} (h : TR c ops ops k K H) : T c (.code (.region id ops.toArray false) :: k) K H := by
  have h' := h 0 (by simp)
  refine T.of_step (fun b a cs w => ?_) h'
  have := stepR_region (P := c.P) (b := b) (a := a) (k := k) (cs := cs) (w := w) (ops := ops.toArray) (id := id)
  rw [this]
  simp [List.range_eq_range']
theorem TR.nil {ops : List Oper} (h : T c k K H) : TR c ops [] k K H := fun _ _ => T.of_step (fun _ _ _ _ => stepR_region_end) h

theorem TR.step {ops l : List Oper} {o : Oper} {Q : Value → List Atom → Prop} (hw : wants ops K o = some true) (ho : Op1 c o K H Q)
    (h : ∀ v H', Q v H' → ∀ b : Act → Prop, (∀ a, b a → Kn c.func.ntmps K a) → ∀ n, (∀ j, l[j]? = ops[n + j]?) →
      ∀ (fr : Frame) (a : Act) (cs : List Frame) (w : World) (hx hr : Hp), c.P.funcs[c.fn]? = some c.func → fr.fn = c.fn → fr.kind = .normal → fr.roundOf = c.ro →
        (c.ro ≠ none → cs ≠ []) → a.defers = c.ds → Kn c.func.ntmps K a → G w H' hx hr → Run c fr (a.put o.dst v) (.inRegion ops.toArray (List.range' n l.length) :: k) cs w hx hr) :
    TR c ops (o :: l) k K H := by
  intro n hn b a cs w hx hr h0 h1 h2 h3 h4 h5 h6 h7
  have hop : (ops.toArray)[n]? = some o := by have := hn 0; simpa using this.symm
  obtain ⟨v, w', H', hx', hr', q, g, st, s⟩ := ho ops.toArray b a cs k (List.range' (n + 1) l.length) n w hx hr hop (wants_sound hw h6) h2 h3 h6 h7
  have hrest : ∀ j, l[j]? = ops[n + 1 + j]? := fun j => by have := hn (j + 1); simpa [Nat.add_assoc, Nat.add_comm 1 j] using this
  have := h v H' q (fun a => Kn c.func.ntmps K a) (fun _ h => h) (n + 1) hrest b a cs w' hx' hr' h0 h1 h2 h3 h4 h5 h6 g
  refine Run.step ?_ st this
  simpa [List.range'_succ] using s

theorem put_defers (a : Act) (d : Option Tmp) (v : Value) : (a.put d v).defers = a.defers := by cases d <;> rfl

theorem TR.anyv {ops l : List Oper} {d : Nat} {op : Go.Op} {ty : TypeId} {pos : String} {af : Array Edge} {gd : Option (Nat × Bool)} {Q : Value → List Atom → Prop}
    (ho : Op1 c ⟨some d, op, ty, pos, af, gd⟩ K H Q) (hw : wants ops K ⟨some d, op, ty, pos, af, gd⟩ = some true) (hd : Nat.blt d c.func.ntmps = true)
    (h : ∀ v H', Q v H' → TR c ops l k ((d, v) :: K) H') : TR c ops (⟨some d, op, ty, pos, af, gd⟩ :: l) k K H :=
  TR.step hw ho fun v H' q _ _ n hn fr a cs w hx hr h0 h1 h2 h3 h4 h5 h6 h7 =>
    h v H' q n hn fr _ cs w hx hr h0 h1 h2 h3 h4 ((put_defers a _ v).trans h5) (h6.put hd v) h7
theorem TR.anyn {ops l : List Oper} {op : Go.Op} {ty : TypeId} {pos : String} {af : Array Edge} {gd : Option (Nat × Bool)} {Q : Value → List Atom → Prop}
    (ho : Op1 c ⟨.none, op, ty, pos, af, gd⟩ K H Q) (hw : wants ops K ⟨.none, op, ty, pos, af, gd⟩ = some true)
    (h : ∀ v H', Q v H' → TR c ops l k K H') : TR c ops (⟨.none, op, ty, pos, af, gd⟩ :: l) k K H :=
  TR.step hw ho fun v H' q _ _ n hn fr a cs w hx hr h0 h1 h2 h3 h4 h5 h6 h7 => h v H' q n hn fr a cs w hx hr h0 h1 h2 h3 h4 h5 h6 h7
/-- One value, one memory. -/
theorem TR.val {ops l : List Oper} {d : Nat} {op : Go.Op} {ty : TypeId} {pos : String} {af : Array Edge} {gd : Option (Nat × Bool)} {v : Value} {H' : List Atom}
    (ho : Op1 c ⟨some d, op, ty, pos, af, gd⟩ K H (ret v H')) (hw : wants ops K ⟨some d, op, ty, pos, af, gd⟩ = some true) (hd : Nat.blt d c.func.ntmps = true)
    (h : TR c ops l k ((d, v) :: K) H') : TR c ops (⟨some d, op, ty, pos, af, gd⟩ :: l) k K H :=
  TR.anyv ho hw hd fun _ _ ⟨e1, e2⟩ => by subst e1; subst e2; exact h
theorem TR.act {ops l : List Oper} {op : Go.Op} {ty : TypeId} {pos : String} {af : Array Edge} {gd : Option (Nat × Bool)} {v : Value} {H' : List Atom}
    (ho : Op1 c ⟨.none, op, ty, pos, af, gd⟩ K H (ret v H')) (hw : wants ops K ⟨.none, op, ty, pos, af, gd⟩ = some true)
    (h : TR c ops l k K H') : TR c ops (⟨.none, op, ty, pos, af, gd⟩ :: l) k K H :=
  TR.anyn ho hw fun _ _ ⟨_, e2⟩ => by subst e2; exact h
/-- The same two, what the guard says first. -/
theorem TR.val2 {ops l : List Oper} {d : Nat} {op : Go.Op} {ty : TypeId} {pos : String} {af : Array Edge} {gd : Option (Nat × Bool)} {v : Value} {H' : List Atom}
    (hw : wants ops K ⟨some d, op, ty, pos, af, gd⟩ = some true) (hd : Nat.blt d c.func.ntmps = true) (ho : Op1 c ⟨some d, op, ty, pos, af, gd⟩ K H (ret v H'))
    (h : TR c ops l k ((d, v) :: K) H') : TR c ops (⟨some d, op, ty, pos, af, gd⟩ :: l) k K H := TR.val ho hw hd h
theorem TR.act2 {ops l : List Oper} {op : Go.Op} {ty : TypeId} {pos : String} {af : Array Edge} {gd : Option (Nat × Bool)} {v : Value} {H' : List Atom}
    (hw : wants ops K ⟨.none, op, ty, pos, af, gd⟩ = some true) (ho : Op1 c ⟨.none, op, ty, pos, af, gd⟩ K H (ret v H'))
    (h : TR c ops l k K H') : TR c ops (⟨.none, op, ty, pos, af, gd⟩ :: l) k K H := TR.act ho hw h
/-- The guard says no. -/
theorem TR.pass {ops l : List Oper} {o : Oper} {d : Nat} (hd : o.dst = some d) (hw : wants ops K o = some false) (hdn : Nat.blt d c.func.ntmps = true)
    (h : TR c ops l k ((d, undef) :: K) H) : TR c ops (o :: l) k K H := by
  intro n hn b a cs w hx hr h0 h1 h2 h3 h4 h5 h6 h7
  have hop : (ops.toArray)[n]? = some o := by have := hn 0; simpa using this.symm
  have hrest : ∀ j, l[j]? = ops[n + 1 + j]? := fun j => by have := hn (j + 1); simpa [Nat.add_assoc, Nat.add_comm 1 j] using this
  have hs := stepR_op_skip (P := c.P) (b := b) (a := a) (k := k) (cs := cs) (w := w) (ops := ops.toArray) (i := n) (rest := List.range' (n + 1) l.length) (by rw [hop]; simpa using wants_sound hw h6)
  have h' := h (n + 1) hrest b (a.put (some d) undef) cs w hx hr h0 h1 h2 h3 h4 h5 (h6.put hdn undef) h7
  refine Run.step (.one ?_) (Stp.refl w hx hr) h'
  rw [hop, Option.bind_some, hd] at hs
  simpa [List.range'_succ] using hs

/-! ### A function's contract -/
def Tri (P : Program) (f : FuncId) (args : Array Value) (Pre : List Atom) (Post : Value → List Atom → Prop) : Prop :=
  (∀ (args : Array Value) (w : World), (callFunc f args).run P w = .ok (.enter f args) w) ∧
  ∀ w hx hr, G w Pre hx hr → Calls P f args w fun e w' => ∃ v H' hx' hr', e = .returned v ∧ Post v H' ∧ G w' H' hx' hr' ∧ Stp w hx hr w' hx' hr'

def enumK : Nat → List Value → List (Nat × Value)
  | _, [] => []
  | n, v :: vs => (n, v) :: enumK (n + 1) vs
theorem look_enumK : ∀ (vs : List Value) (n t : Nat) (v : Value), look (enumK n vs) t = some v → n ≤ t ∧ vs[t - n]? = some v
  | [], _, _, _, h => by simp [enumK, look] at h
  | u :: vs, n, t, v, h => by
    rw [enumK, look_cons] at h
    by_cases e : n = t
    · subst e; rw [if_pos rfl] at h; exact ⟨Nat.le_refl _, by simpa using h⟩
    · rw [if_neg e] at h
      obtain ⟨h1, h2⟩ := look_enumK vs (n + 1) t v h
      refine ⟨by omega, ?_⟩
      obtain ⟨m, rfl⟩ : ∃ m, t = n + 1 + m := ⟨t - (n + 1), by omega⟩
      rw [show n + 1 + m - n = m + 1 from by omega]
      rw [show n + 1 + m - (n + 1) = m from by omega] at h2
      simpa using h2

theorem Tri.of_T {P : Program} {f : FuncId} {fn : Func} {x : Code} {args : List Value} {Pre : List Atom} {Post : Value → List Atom → Prop}
    (hcall : ∀ (args : Array Value) (w : World), (callFunc f args).run P w = .ok (.enter f args) w)
    (hf : P.funcs[f]? = some fn) (hb : fn.body = some x)
    (h : T ⟨P, none, f, fn, Post, []⟩ [.code x] (enumK 0 args) Pre) : Tri P f args.toArray Pre Post := by
  refine ⟨hcall, fun w hx hr g cs => ?_⟩
  let b : Frame := { (default : Frame) with fn := f, kind := .normal, roundOf := none }
  let a : Act := { tmps := args.toArray ++ Array.replicate (fn.ntmps - args.length) undef, defers := [] }
  have henter : Frame.enter P f args.toArray .normal = b.atR a [.code x] := by
    simp [Frame.enter, Frame.atR, hf, hb, b, a]
  have hK : Kn fn.ntmps (enumK 0 args) a := by
    refine ⟨by simp [a]; omega, fun t v e => ?_⟩
    obtain ⟨_, h2⟩ := look_enumK _ _ _ _ e
    have hlt : t < args.length := by
      have := (List.getElem?_eq_some_iff.1 h2).1
      simpa using this
    simp only [a, Array.getElem?_append]
    rw [if_pos (by simpa using hlt)]
    simpa using h2
  obtain ⟨v, w', m', H', hx', hr', p, g', st, s, e⟩ := h b a cs w hx hr hf rfl rfl rfl (fun h => absurd rfl h) rfl hK g
  obtain ⟨fr, rfl, e1, e2⟩ := e
  refine ⟨.returned v, w', fr, ⟨v, H', hx', hr', rfl, p, g', st⟩, ?_, e1, e2⟩
  rw [henter]
  exact s

/-- A call. -/
theorem Op1.call {d : Option Tmp} {g : Operand} {args : List Operand} {at_ : Array TypeId} {ty : TypeId} {pos : String} {af : Array Edge} {gd : Option (Nat × Bool)}
    {f : FuncId} {first captured vs : List Value} {Pre F : List Atom} {Post : Value → List Atom → Prop}
    (hg : evK K g = some (.func (.func f) first.toArray captured.toArray)) (ha : evKs K args = some vs)
    (t : Tri c.P f (first ++ vs ++ captured).toArray Pre Post) (p : Split H Pre F) :
    Op1 c ⟨d, .call ⟨.value g, args.toArray, at_⟩, ty, pos, af, gd⟩ K H (fun v H' => ∃ H1, Post v H1 ∧ H' = H1 ++ F) := by
  refine Op1.frame p ?_
  intro ops b a cs k rest i w hx hr ho hw hk hro hK hG
  have hg' := hK.eval hg
  have ha' := hK.evals ha
  have hrun : (execOp a.eval ⟨d, .call ⟨.value g, args.toArray, at_⟩, ty, pos, af, gd⟩).run c.P w = .ok (.enter f (first ++ vs ++ captured).toArray) w := by
    have hmap : Array.map a.eval args.toArray = vs.toArray := by rw [← ha']; simp
    simp only [execOp, resolve, hg', Deferred.ofValue, hmap]
    simp only [Sem.run_bind, Sem.run_pure, Result.andThen_ok, invoke]
    have := t.1 (first ++ vs ++ captured).toArray w
    simpa using this
  have hgo := stepGR_op (P := c.P) (b := b) (a := a) (k := k) (cs := cs) (w := w) (rest := rest) ho hw
  rw [Oper.semAt_eq _ _ _ (fun x => by simp)] at hgo
  have hfin : ∀ v, (b.atR a (.inRegion ops (i :: rest) :: k)).finish v = b.atR (a.put d v) (.inRegion ops rest :: k) := by
    intro v; rw [Frame.finish_atR, ho]; rfl
  have henter : step c.P (lone (b.atR a (.inRegion ops (i :: rest) :: k)) cs w) =
      .next (lone (Frame.enter c.P f (first ++ vs ++ captured).toArray .normal) (b.atR a (.inRegion ops (i :: rest) :: k) :: cs) w) :=
    step_lone_go (by rw [hgo]; simp [stepG.apply, hrun, Frame.atR])
  obtain ⟨e, w', fr, ⟨v, H', hx', hr', rfl, q, g', st⟩, hs, hfn, hl⟩ := t.2 w hx hr hG (b.atR a (.inRegion ops (i :: rest) :: k) :: cs)
  refine ⟨v, w', H', hx', hr', q, g', st, .head henter (Steps.trans hs (.one ?_))⟩
  rw [← hfin]
  exact step_leave_returned hl

theorem Tri.mono {P : Program} {f : FuncId} {args : Array Value} {Pre : List Atom} {Post Post' : Value → List Atom → Prop} (h : Tri P f args Pre Post)
    (hq : ∀ v H, Post v H → Post' v H) : Tri P f args Pre Post' :=
  ⟨h.1, fun w hx hr g => (h.2 w hx hr g).mono fun _ _ ⟨v, H', hx', hr', e, p, g', st⟩ => ⟨v, H', hx', hr', e, hq _ _ p, g', st⟩⟩

end Go.SL
