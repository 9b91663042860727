/- A range over a function that hands out the elements of a list, one by one; contracts beside other memory, and told otherwise. No program is named here; the conditions stand in each rule. -/
import Derived.Test.YtdnjjodjglikjaaSLRange
import Derived.Test.YtdnjjodjglikjaaSLMore
namespace Go.SL
open Go

variable {c : Cx} {k : List Item} {K : List (Nat × Value)} {H : List Atom}

theorem Tri.beside {P : Program} {f : FuncId} {args : Array Value} {Pre F : List Atom} {Post : Value → List Atom → Prop} (p : Split H Pre F) (h : Tri P f args Pre Post) : Tri P f args H (fun v H' => ∃ H1, Post v H1 ∧ H' = H1 ++ F) := by
  refine ⟨h.1, fun w hx hr g => ?_⟩
  obtain ⟨h1, h2, j, g', s⟩ := g.split p
  refine (h.2 w h1 hr g').mono ?_
  rintro e w' ⟨v', H', hx', hr', rfl, q, g2, st⟩
  obtain ⟨hx2, g3, st2⟩ := G.frame j g.own g.dj st g2 s
  exact ⟨_, _, hx2, hr', rfl, ⟨H', q, rfl⟩, g3, st2⟩
theorem Tri.conv {P : Program} {f : FuncId} {args : Array Value} {Pre : List Atom} {Post Post' : Value → List Atom → Prop} (h : Tri P f args Pre Post)
    (hc : ∀ v H, Post v H → ∃ H', Post' v H' ∧ ∀ hx hr, Sat H hx hr → Sat H' hx hr) : Tri P f args Pre Post' :=
  ⟨h.1, fun w hx hr g => (h.2 w hx hr g).mono fun _ _ ⟨v, H', hx', hr', e, p, g', st⟩ => let ⟨H2, p2, hs⟩ := hc v H' p; ⟨v, H2, hx', hr', e, p2, ⟨hs _ _ g'.sat, g'.own, g'.red, g'.dj⟩, st⟩⟩
/-- Some atoms as one. -/
def star (A : List Atom) : Atom := ex fun _ : Unit => A
theorem sat_star {A : List Atom} {hx hr : Hp} : Sat [star A] hx hr ↔ Sat A hx hr := by
  constructor
  · rintro ⟨h1, h2, j, ⟨_, s⟩, e⟩
    have := j.comm.of_emp e
    subst this
    exact s
  · intro s
    exact ⟨hx, emp, (Join.emp_left hx).comm, ⟨(), s⟩, fun _ => rfl⟩
theorem sat_star_end {A B : List Atom} {hx hr : Hp} : Sat (B ++ [star A]) hx hr ↔ Sat (B ++ A) hx hr := by
  rw [Sat.append, Sat.append]
  constructor
  · rintro ⟨h1, h2, j, s, s'⟩; exact ⟨h1, h2, j, s, sat_star.1 s'⟩
  · rintro ⟨h1, h2, j, s, s'⟩; exact ⟨h1, h2, j, s, sat_star.2 s'⟩
theorem Yld.conv {P : Program} {l : Nat} {args : List Value} {Pre Pre' : List Atom} {Post Post' : Value → List Atom → Prop} (h : Yld P l args Pre Post) (hp : ∀ hx hr, Sat Pre' hx hr → Sat Pre hx hr)
    (hc : ∀ v H, Post v H → ∃ H', Post' v H' ∧ ∀ hx hr, Sat H hx hr → Sat H' hx hr) : Yld P l args Pre' Post' := by
  intro w hx hr g c0 cs
  obtain ⟨f, tmps, as, bd, hy, v, w', H', hx', hr', q, g', rest⟩ := h w hx hr ⟨hp _ _ g.sat, g.own, g.red, g.dj⟩ c0 cs
  obtain ⟨H2, q2, hs⟩ := hc v H' q
  exact ⟨f, tmps, as, bd, hy, v, w', H2, hx', hr', q2, ⟨hs _ _ g'.sat, g'.own, g'.red, g'.dj⟩, rest⟩
/-- What a function that hands out elements comes to. -/
def Hands (P : Program) (it : FuncId) (captured : List Value) (Pre0 : List Atom) (es : List Value) : Prop :=
  ∀ (l : Nat) (Inv : Nat → Atom), (∀ i x, es[i]? = some x → Yld P l [x] [Inv i] (fun r H => r = .bool true ∧ H = [Inv (i + 1)])) →
    Tri P it ([Value.func (Fn.yield l) #[] #[]] ++ captured).toArray (Pre0 ++ [Inv 0]) (fun _ H => H = Pre0 ++ [Inv es.length])
theorem Sat.app_congr {A B B' : List Atom} {hx hr : Hp} (h : ∀ hx, Sat B hx hr → Sat B' hx hr) (s : Sat (A ++ B) hx hr) : Sat (A ++ B') hx hr := by
  obtain ⟨h1, h2, j, s1, s2⟩ := Sat.append.1 s
  exact Sat.append.2 ⟨h1, h2, j, s1, h _ s2⟩
/-- 'for x := range it { .. }': J i is what is owned when i elements have been told. -/
theorem T.rangeEach {g : Operand} {t : Nat} {as bd : Code} {it : FuncId} {captured es : List Value} {Pre0 F : List Atom} (J : Nat → List Atom) (hro : c.ro = none)
    (hg : evK K g = some (.func (.func it) #[] captured.toArray)) (hit : Hands c.P it captured Pre0 es) (sp : Split H (J 0 ++ Pre0) F) (hf : c.P.funcs[c.fn]? = some c.func) (ht : Nat.blt t c.func.ntmps = true)
    (body : ∀ l d i x, es[i]? = some x → T ⟨c.P, some l, c.fn, c.func, fun r H' => r = .bool true ∧ H' = lp l c.fn .ready c.func.ntmps K #[t] as bd d :: J (i + 1), []⟩
      [.code as, .beginRound, .code bd] ((t, x) :: K) (lp l c.fn .ready c.func.ntmps K #[t] as bd d :: J i))
    (h : ∀ d, T { c with ds := mrk d :: c.ds } k K (dfr d :: ((J es.length ++ Pre0) ++ F))) : T c (.code (.rangeFunc g #[t] as bd) :: k) K H := by
  refine T.rangeFunc (first := []) (Q := fun l d H2 => H2 = J es.length ++ Pre0) hro hg sp ?_ ?_
  · intro l d
    have hy : ∀ i x, es[i]? = some x → Yld c.P l [x] [star (lp l c.fn .ready c.func.ntmps K #[t] as bd d :: J i)] (fun r H => r = .bool true ∧ H = [star (lp l c.fn .ready c.func.ntmps K #[t] as bd d :: J (i + 1))]) := by
      intro i x hx
      have hb := body l d i x hx
      have := Yld.of_T (ps := [t]) (args := [x]) (d := d) (K := K) hf rfl (by simpa using ht) (by simpa [putPs] using hb)
      refine Yld.conv this (fun hx hr s => sat_star.1 s) ?_
      rintro v H' ⟨rfl, rfl⟩
      exact ⟨_, ⟨rfl, rfl⟩, fun hx hr s => sat_star.2 s⟩
    have ht := hit l (fun i => star (lp l c.fn .ready c.func.ntmps K #[t] as bd d :: J i)) hy
    have hpre : ∀ hx hr, Sat (lp l c.fn .ready c.func.ntmps K #[t] as bd d :: (J 0 ++ Pre0)) hx hr → Sat (Pre0 ++ [star (lp l c.fn .ready c.func.ntmps K #[t] as bd d :: J 0)]) hx hr := by
      intro hx hr s
      refine sat_star_end.2 (s.perm ?_)
      rw [← List.cons_append]
      exact List.perm_append_comm
    refine ⟨ht.1, fun w hx hr gg => ?_⟩
    refine (ht.2 w hx hr ⟨hpre _ _ gg.sat, gg.own, gg.red, gg.dj⟩).mono ?_
    rintro e w' ⟨v, H', hx', hr', rfl, rfl, g', st⟩
    refine ⟨v, _, hx', hr', rfl, ⟨_, rfl, rfl⟩, ⟨?_, g'.own, g'.red, g'.dj⟩, st⟩
    refine (sat_star_end.1 g'.sat).perm ?_
    rw [← List.cons_append]
    exact List.perm_append_comm
  · rintro l d H2 rfl
    exact h d

/-! ### What a contract's memory says -/
theorem Tri.exP {α : Type} {P : Program} {f : FuncId} {args : Array Value} {A : α → List Atom} {Pre : List Atom} {Post : Value → List Atom → Prop} (hc : ∀ (args : Array Value) (w : World), (callFunc f args).run P w = .ok (.enter f args) w)
    (h : ∀ x, Tri P f args (A x ++ Pre) Post) : Tri P f args (SL.ex A :: Pre) Post := by
  refine ⟨hc, fun w hx hr g => ?_⟩
  obtain ⟨h1, h2, j, ⟨x, s1⟩, s⟩ := g.sat
  exact (h x).2 w hx hr ⟨Sat.append.2 ⟨h1, h2, j, s1, s⟩, g.own, g.red, g.dj⟩
theorem Tri.factP {p : Prop} {P : Program} {f : FuncId} {args : Array Value} {Pre : List Atom} {Post : Value → List Atom → Prop} (hc : ∀ (args : Array Value) (w : World), (callFunc f args).run P w = .ok (.enter f args) w)
    (h : p → Tri P f args Pre Post) : Tri P f args (SL.fact p :: Pre) Post := by
  refine ⟨hc, fun w hx hr g => ?_⟩
  obtain ⟨h1, h2, j, ⟨e, hp⟩, s⟩ := g.sat
  have := j.of_emp e
  subst this
  exact (h hp).2 w _ hr ⟨s, g.own, g.red, g.dj⟩
theorem Sat.splitNil {H Pre : List Atom} (p : Split H Pre []) {hx hr : Hp} (s : Sat H hx hr) : Sat Pre hx hr := by
  obtain ⟨h1, h2, j, s1, s2⟩ := s.split p
  have := j.comm.of_emp s2
  subst this
  exact s1

end Go.SL
