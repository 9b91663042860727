/- A range over a function: the statement, its rounds, yield; the way out of a frame that held one. Rounds that end normally alone. No program is named here; the conditions stand in each rule. -/
import Derived.Test.YtdnjjodjglikjaaSLDraw
import Derived.RangeFuncIn
import Derived.RangeFuncRecord
import Derived.RangeFuncLeaves
namespace Go.SL
open Go

/-- The loop's record: what it knows of the slots is K. -/
def lp (l : Nat) (fn : FuncId) (st : LoopState) (N : Nat) (K : List (Nat × Value)) (ps : Array Tmp) (assign body : Code) (d : Nat) : Atom :=
  ⟨fun hx _ => ∃ tmps, Kn N K ⟨tmps, []⟩ ∧ hx = one l (.loop { state := st, pending := none, fn, tmps, params := ps, assign, body, defers := d }), fun _ _ _ _ h => h⟩
/-- The block of the rounds' deferred calls: none. -/
abbrev dfr (d : Nat) : Atom := pt d (.deferred (some []))
abbrev mrk (d : Nat) : Deferred := { target := .collected d, args := #[] }

variable {c : Cx} {k : List Item} {K : List (Nat × Value)} {H : List Atom}

/-- What a call of yield comes to. -/
def Yld (P : Program) (l : Nat) (args : List Value) (Pre : List Atom) (Post : Value → List Atom → Prop) : Prop :=
  ∀ w hx hr, G w Pre hx hr → ∀ (c0 : Frame) (cs : List Frame), ∃ (f : FuncId) (tmps : Array Value) (as bd : Code), (Instr.yield l args.toArray).run P w = .ok (.round l f tmps as bd) w ∧
    ∃ v w' H' hx' hr', Post v H' ∧ G w' H' hx' hr' ∧ Stp w hx hr w' hx' hr' ∧ Steps P (lone (Frame.round l f tmps as bd .normal) (c0 :: cs) w) (lone (c0.finish v) cs w')

theorem Op1.yield {d : Option Tmp} {g : Operand} {args : List Operand} {at_ : Array TypeId} {ty : TypeId} {pos : String} {af : Array Edge} {gd : Option (Nat × Bool)}
    {l : Nat} {vs : List Value} {Pre F : List Atom} {Post : Value → List Atom → Prop}
    (hg : evK K g = some (.func (.yield l) #[] #[])) (ha : evKs K args = some vs) (t : Yld c.P l vs Pre Post) (p : Split H Pre F) :
    Op1 c ⟨d, .call ⟨.value g, args.toArray, at_⟩, ty, pos, af, gd⟩ K H (fun v H' => ∃ H1, Post v H1 ∧ H' = H1 ++ F) := by
  refine Op1.frame p ?_
  intro ops b a cs k rest i w hx hr ho hw hk hro hK hG
  have hg' := hK.eval hg
  have ha' := hK.evals ha
  obtain ⟨f, tmps, as, bd, hy, v, w', H', hx', hr', q, g', st, s⟩ := t w hx hr hG (b.atR a (.inRegion ops (i :: rest) :: k)) cs
  have hrun : (execOp a.eval ⟨d, .call ⟨.value g, args.toArray, at_⟩, ty, pos, af, gd⟩).run c.P w = .ok (.round l f tmps as bd) w := by
    have hmap : Array.map a.eval args.toArray = vs.toArray := by rw [← ha']; simp
    simp only [execOp, resolve, hg', Deferred.ofValue, hmap]
    simp only [Sem.run_bind, Sem.run_pure, Result.andThen_ok, invoke]
    simpa using hy
  have hgo := stepGR_op (P := c.P) (b := b) (a := a) (k := k) (cs := cs) (w := w) (rest := rest) ho hw
  rw [Oper.semAt_eq _ _ _ (fun x => by simp)] at hgo
  have hfin : ∀ v, (b.atR a (.inRegion ops (i :: rest) :: k)).finish v = b.atR (a.put d v) (.inRegion ops rest :: k) := by
    intro v; rw [Frame.finish_atR, ho]; rfl
  have henter : step c.P (lone (b.atR a (.inRegion ops (i :: rest) :: k)) cs w) =
      .next (lone (Frame.round l f tmps as bd .normal) (b.atR a (.inRegion ops (i :: rest) :: k) :: cs) w) :=
    step_lone_go (by rw [hgo]; simp [stepG.apply, hrun, Frame.atR])
  refine ⟨v, w', H', hx', hr', q, g', st, .head henter ?_⟩
  rw [← hfin]
  exact s

theorem Yld.mono {P : Program} {l : Nat} {args : List Value} {Pre : List Atom} {Post Post' : Value → List Atom → Prop} (h : Yld P l args Pre Post) (hq : ∀ v H, Post v H → Post' v H) : Yld P l args Pre Post' := by
  intro w hx hr g c0 cs
  obtain ⟨f, tmps, as, bd, hy, v, w', H', hx', hr', q, rest⟩ := h w hx hr g c0 cs
  exact ⟨f, tmps, as, bd, hy, v, w', H', hx', hr', hq _ _ q, rest⟩
/-- Less may be owned. -/
theorem Yld.beside {P : Program} {l : Nat} {args : List Value} {Pre F : List Atom} {Post : Value → List Atom → Prop} (p : Split H Pre F) (h : Yld P l args Pre Post) : Yld P l args H (fun v H' => ∃ H1, Post v H1 ∧ H' = H1 ++ F) := by
  intro w hx hr g c0 cs
  obtain ⟨h1, h2, j, g1, f1⟩ := g.split p
  obtain ⟨f, tmps, as, bd, hy, v, w', H', hx', hr', q, g', st, s⟩ := h w h1 hr g1 c0 cs
  obtain ⟨hx2, g2, st2⟩ := G.frame j g.own g.dj st g' f1
  exact ⟨f, tmps, as, bd, hy, v, w', H' ++ F, hx2, hr', ⟨H', q, rfl⟩, g2, st2, s⟩

/-- yield's arguments come to stand in the loop's slots. -/
def putPs : List (Nat × Value) → List (Nat × Value) → List (Nat × Value)
  | [], K => K
  | (t, v) :: ps, K => putPs ps ((t, v) :: K)
theorem Kn.puts {N : Nat} : ∀ {ps : List (Nat × Value)} {K : List (Nat × Value)} {tmps : Array Value}, Kn N K ⟨tmps, []⟩ → (ps.all fun p => Nat.blt p.1 N) = true →
    Kn N (putPs ps K) ⟨ps.foldl (fun tmps (p : Nat × Value) => tmps.setIfInBounds p.1 p.2) tmps, []⟩
  | [], _, _, h, _ => h
  | (t, v) :: ps, K, tmps, h, hb => by
    simp only [List.all_cons, Bool.and_eq_true] at hb
    have := Kn.put h hb.1 v
    exact Kn.puts (tmps := tmps.setIfInBounds t v) this hb.2

/-- A round, out of its body's walk. -/
theorem Yld.of_T {P : Program} {l d : Nat} {fn : FuncId} {func : Func} {args : List Value} {ps : List Tmp} {as bd : Code} {Pre : List Atom} {Post : Value → List Atom → Prop}
    (hf : P.funcs[fn]? = some func) (hl : args.length = ps.length) (hb : ((ps.zip args).all fun p => Nat.blt p.1 func.ntmps) = true)
    (h : T ⟨P, some l, fn, func, Post, []⟩ [.code as, .beginRound, .code bd] (putPs (ps.zip args) K) (lp l fn .ready func.ntmps K ps.toArray as bd d :: Pre)) :
    Yld P l args (lp l fn .ready func.ntmps K ps.toArray as bd d :: Pre) Post := by
  intro w hx hr g c0 cs
  obtain ⟨h1, h2, j, ⟨tmps, hK, rfl⟩, s⟩ := g.sat
  have hw : w.heap[l]? = some (.loop { state := .ready, pending := none, fn, tmps, params := ps.toArray, assign := as, body := bd, defers := d }) := g.own _ _ (j.left (by simp [one]))
  refine ⟨_, _, _, _, run_yield hw (by simpa using hl), ?_⟩
  let b : Frame := { (default : Frame) with fn := fn, kind := .normal, roundOf := some l }
  have hfold : (ps.toArray.zip args.toArray).foldl (fun (tmps : Array Value) (x : Tmp × Value) => tmps.setIfInBounds x.1 x.2) tmps = (ps.zip args).foldl (fun tmps (p : Nat × Value) => tmps.setIfInBounds p.1 p.2) tmps := by
    rw [← List.foldl_toArray]; simp
  let a : Act := ⟨(ps.zip args).foldl (fun tmps (p : Nat × Value) => tmps.setIfInBounds p.1 p.2) tmps, []⟩
  have hround : Frame.round l fn a.tmps as bd .normal = b.atR a [.code as, .beginRound, .code bd] := by
    simp [Frame.round, Frame.atR, b, a]
  obtain ⟨v, w', m', H', hx', hr', p, g', st, s', e⟩ := h b a (c0 :: cs) w hx hr hf rfl rfl rfl (fun _ => by simp) rfl (hK.puts hb) g
  obtain ⟨c1, cs1, e1, rfl⟩ := e
  cases e1
  refine ⟨v, w', H', hx', hr', p, g', st, ?_⟩
  simp only [hfold]
  rw [show Frame.round l fn ((ps.zip args).foldl (fun tmps (p : Nat × Value) => tmps.setIfInBounds p.1 p.2) tmps) as bd .normal = b.atR a [.code as, .beginRound, .code bd] from hround]
  exact s'

theorem G.lp {w : World} {l : Nat} {fn : FuncId} {st : LoopState} {N : Nat} {K0 : List (Nat × Value)} {ps : Array Tmp} {as bd : Code} {d : Nat} {H1 : List Atom} {hx hr : Hp} (st' : LoopState) (p : Pick (SL.lp l fn st N K0 ps as bd d) H H1) (g : G w H hx hr) :
    ∃ tmps, Kn N K0 ⟨tmps, []⟩ ∧ w.heap[l]? = some (.loop { state := st, pending := none, fn, tmps, params := ps, assign := as, body := bd, defers := d }) ∧
      ∀ w', w' = w.putObj l (.loop { state := st', pending := none, fn, tmps, params := ps, assign := as, body := bd, defers := d }) →
        ∃ hx', G w' (SL.lp l fn st' N K0 ps as bd d :: H1) hx' hr ∧ Stp w hx hr w' hx' hr := by
  obtain ⟨h1, h2, j, ⟨tmps, hK, rfl⟩, s⟩ := g.sat.pick p
  have hw := g.own _ _ (j.left (k := l) (by simp [one]; rfl))
  refine ⟨tmps, hK, hw, fun w' hw' => ?_⟩
  have hlt : l < w.heap.size := (Array.getElem?_eq_some_iff.1 hw).1
  have g0 : G w (pt l (.loop { state := st, pending := none, fn, tmps, params := ps, assign := as, body := bd, defers := d }) :: H1) hx hr := ⟨⟨_, h2, j, rfl, s⟩, g.own, g.red, g.dj⟩
  obtain ⟨hx', g', st2⟩ := g0.put .here (w' := w') (o' := .loop { state := st', pending := none, fn, tmps, params := ps, assign := as, body := bd, defers := d })
    (by rw [hw']; rfl) (by rw [hw']; rfl) (by rw [hw']; rfl) (by rw [hw']; simp) (by rw [hw']; exact World.putObj_heap_same hlt) (fun k hk => by rw [hw']; exact World.putObj_heap_other hk)
  obtain ⟨h3, h4, j', e, s'⟩ := g'.sat
  exact ⟨hx', ⟨⟨h3, h4, j', ⟨tmps, hK, e⟩, s'⟩, g'.own, g'.red, g'.dj⟩, st2⟩

theorem T.beginRound {l : Nat} {fn : FuncId} {N : Nat} {K0 : List (Nat × Value)} {ps : Array Tmp} {as bd : Code} {d : Nat} {H1 : List Atom} (hro : c.ro = some l) (p : Pick (lp l fn .ready N K0 ps as bd d) H H1)
    (h : T c k K (lp l fn .busy N K0 ps as bd d :: H1)) : T c (.beginRound :: k) K H := by
  intro b a cs w hx hr h0 h1 h2 h3 h4 h5 h6 h7
  obtain ⟨tmps, hK, hw, hg⟩ := h7.lp .busy p
  obtain ⟨hx', g', st⟩ := hg _ rfl
  exact Run.step (.one (stepR_beginRound (h3.trans hro) (run_beginRound hw rfl))) st (h b a cs _ hx' hr h0 h1 h2 h3 h4 h5 h6 g')
/-- A round's body ends. -/
theorem T.endRound {l : Nat} {fn : FuncId} {N : Nat} {K0 : List (Nat × Value)} {ps : Array Tmp} {as bd : Code} {d : Nat} {H1 H' F : List Atom} (hro : c.ro = some l) (p : Pick (lp l fn .busy N K0 ps as bd d) H H1)
    (sp : Split (lp l fn .ready N K0 ps as bd d :: H1) H' F) (hp : c.Post (.bool true) H') : T c [] K H := by
  intro b a cs w hx hr h0 h1 h2 h3 h4 h5 h6 h7
  obtain ⟨tmps, hK, hw, hg⟩ := h7.lp .ready p
  obtain ⟨hx', g', st⟩ := hg _ rfl
  obtain ⟨hx2, g2, st2⟩ := g'.drop sp
  have hcs := h4 (by rw [hro]; simp)
  cases cs with
  | nil => exact absurd rfl hcs
  | cons c0 cs =>
    refine ⟨.bool true, _, _, H', hx2, hr, hp, g2, st.trans st2, .one (stepR_round_end (h3.trans hro) h2 (run_endRound none hw)), ?_⟩
    unfold EndsAt
    rw [hro]
    exact ⟨c0, cs, rfl, rfl⟩

theorem Split.there {A : Atom} {H Pre F : List Atom} (sp : Split H Pre F) : Split (A :: H) Pre (A :: F) := by
  induction sp with
  | nil => exact .nil
  | own p _ ih => exact .own (.there p) ih
  | ro r p _ ih => exact .ro r (.there p) ih
  | fact hp _ ih => exact .fact hp ih
  | ex x _ ih => exact .ex x ih
theorem G.tail {w : World} {A : Atom} {hx hr : Hp} (g : G w (A :: H) hx hr) : ∃ hx', G w H hx' hr ∧ Stp w hx hr w hx' hr := by
  obtain ⟨h1, h2, j, _, s⟩ := g.sat
  exact ⟨h2, ⟨s, fun q u e => g.own q u (j.right e), g.red, fun q => (g.dj q).imp (fun h => (j.isNone.1 h).2) id⟩, ⟨rfl, rfl, rfl, Nat.le_refl _, fun _ _ _ => rfl, fun k h _ => (j.isNone.1 h).2, Hp.le_refl _, fun _ _ h _ => h⟩⟩
/-- The statement. -/
theorem T.rangeFunc {g : Operand} {ps : Array Tmp} {as bd : Code} {it : FuncId} {first captured : List Value} {Pre F : List Atom} {Q : Nat → Nat → List Atom → Prop} (hro : c.ro = none)
    (hg : evK K g = some (.func (.func it) first.toArray captured.toArray)) (sp : Split H Pre F)
    (t : ∀ l d, Tri c.P it (first ++ [Value.func (Fn.yield l) #[] #[]] ++ captured).toArray (lp l c.fn .ready c.func.ntmps K ps as bd d :: Pre) (fun _ H1 => ∃ H2, H1 = lp l c.fn .ready c.func.ntmps K ps as bd d :: H2 ∧ Q l d H2))
    (h : ∀ l d H2, Q l d H2 → T { c with ds := mrk d :: c.ds } k K (dfr d :: (H2 ++ F))) : T c (.code (.rangeFunc g ps as bd) :: k) K H := by
  intro b a cs w hx hr h0 h1 h2 h3 h4 h5 h6 h7
  -- the two blocks
  obtain ⟨hx1, g1, st1⟩ := h7.new (w' := w.alloc (.deferred (some []))) (o := .deferred (some [])) rfl rfl rfl rfl
  obtain ⟨hx2, g2, st2⟩ := g1.new (w' := (w.alloc (.deferred (some []))).alloc (.loop { state := .ready, pending := none, fn := c.fn, tmps := a.tmps, params := ps, assign := as, body := bd, defers := w.heap.size })) rfl rfl rfl rfl
  generalize hW : (w.alloc (.deferred (some []))).alloc (.loop { state := .ready, pending := none, fn := c.fn, tmps := a.tmps, params := ps, assign := as, body := bd, defers := w.heap.size }) = W at g2 st2
  have hl : (w.alloc (.deferred (some []))).heap.size = w.heap.size + 1 := by simp
  rw [hl] at g2
  -- the part for the function
  have hpl : G W (lp (w.heap.size + 1) c.fn .ready c.func.ntmps K ps as bd w.heap.size :: (dfr w.heap.size :: H)) hx2 hr := by
    obtain ⟨h3', h4', j', e, s'⟩ := g2.sat
    exact ⟨⟨h3', h4', j', ⟨a.tmps, ⟨h6.1, h6.2⟩, e⟩, s'⟩, g2.own, g2.red, g2.dj⟩
  have hsp : Split (lp (w.heap.size + 1) c.fn .ready c.func.ntmps K ps as bd w.heap.size :: (dfr w.heap.size :: H)) (lp (w.heap.size + 1) c.fn .ready c.func.ntmps K ps as bd w.heap.size :: Pre) (dfr w.heap.size :: F) := by
    exact .own .here (Split.there sp)
  obtain ⟨h5', h6', j5, g5, s6⟩ := hpl.split hsp
  -- the call
  have hg' := h6.eval hg
  have henter : (Instr.enterLoop b.fn a.tmps ps as bd b.roundOf).run c.P w = .ok (w.heap.size + 1, [mrk w.heap.size]) W := by
    rw [h1, h3, hro, run_enterLoop_outer, hW]
  have hres : (resolve a.eval (rangeCall g (w.heap.size + 1)) 0).run c.P W = .ok { target := .fn (.func it) captured.toArray, args := first.toArray ++ #[Value.func (Fn.yield (w.heap.size + 1)) #[] #[]] } W := by
    have hy : a.eval (.const (.func (.yield (w.heap.size + 1)) #[] #[])) = .func (.yield (w.heap.size + 1)) #[] #[] := rfl
    simp only [resolve, hg', Deferred.ofValue, List.map_toArray, List.map_cons, List.map_nil, hy]
    simp
  have hinv : (invoke (.fn (.func it) captured.toArray) (first.toArray ++ #[Value.func (Fn.yield (w.heap.size + 1)) #[] #[]])).run c.P W = .ok (.enter it (first ++ [Value.func (Fn.yield (w.heap.size + 1)) #[] #[]] ++ captured).toArray) W := by
    have := (t (w.heap.size + 1) w.heap.size).1 (first ++ [Value.func (Fn.yield (w.heap.size + 1)) #[] #[]] ++ captured).toArray W
    simpa [invoke] using this
  have hstep := stepR_rangeFunc (P := c.P) (b := b) (a := a) (k := k) (cs := cs) (w := w) henter hres hinv
  obtain ⟨e, w3, fr, ⟨v, H', hx3, hr3, rfl, ⟨H2, rfl, q⟩, g3, st3⟩, hs, hfn, hlv⟩ := (t (w.heap.size + 1) w.heap.size).2 W h5' hr g5 (b.atR { a with defers := [mrk w.heap.size] ++ a.defers } (.inRangeFunc (w.heap.size + 1) :: k) :: cs)
  obtain ⟨hx4, g4, st4⟩ := G.frame j5 hpl.own hpl.dj st3 g3 s6
  -- the end of the statement
  obtain ⟨tmps, hK, hw, hgo⟩ := g4.lp .exhausted .here
  obtain ⟨hx6, g6, st6⟩ := hgo _ rfl
  have hend : (Instr.endLoop (w.heap.size + 1)).run c.P w3 = .ok none (w3.putObj (w.heap.size + 1) (.loop { state := .exhausted, pending := none, fn := c.fn, tmps, params := ps, assign := as, body := bd, defers := w.heap.size })) := run_endLoop hw (by simp)
  have hback : step c.P (lone fr (b.atR { a with defers := [mrk w.heap.size] ++ a.defers } (.inRangeFunc (w.heap.size + 1) :: k) :: cs) w3) = .next (lone (b.atR { a with defers := [mrk w.heap.size] ++ a.defers } (.endRangeFunc (w.heap.size + 1) :: k)) cs w3) := by
    rw [← finish_atR_inRangeFunc (w.heap.size + 1) v]; exact step_leave_returned hlv
  have hlast := stepR_endRangeFunc (b := b) (a := { a with defers := [mrk w.heap.size] ++ a.defers }) (k := k) (cs := cs) hend
  have hsteps : Steps c.P (lone (b.atR a (.code (.rangeFunc g ps as bd) :: k)) cs w) (lone (b.atR { a with defers := [mrk w.heap.size] ++ a.defers } k) cs (w3.putObj (w.heap.size + 1) (.loop { state := .exhausted, pending := none, fn := c.fn, tmps, params := ps, assign := as, body := bd, defers := w.heap.size }))) :=
    .head hstep (Steps.trans hs (.head hback (.one hlast)))
  obtain ⟨hx7, g7', st7⟩ := g6.tail
  have g7 : G _ (dfr w.heap.size :: (H2 ++ F)) hx7 hr3 := ⟨g7'.sat.perm List.perm_middle, g7'.own, g7'.red, g7'.dj⟩
  obtain ⟨v', w', m', H'', hx'', hr'', p, g'', st'', s'', e''⟩ := h (w.heap.size + 1) w.heap.size H2 q b { a with defers := [mrk w.heap.size] ++ a.defers } cs _ hx7 hr3 h0 h1 h2 h3 h4 (by simp [h5]) ⟨h6.1, h6.2⟩ g7
  exact ⟨v', w', m', H'', hx'', hr'', p, g'', ((st1.trans st2).trans (st4.trans (st6.trans st7))).trans st'', hsteps.trans s'', e''⟩

/-- The way out, where the frame held one such statement. -/
theorem T.ret_d {v : Value} {d : Nat} {H1 H' F : List Atom} (hro : c.ro = none) (hds : c.ds = [mrk d]) (pd : Pick (dfr d) H H1)
    (hres : ∀ (a : Act) (w : World) (hx hr : Hp), Kn c.func.ntmps K a → G w H1 hx hr → (results c.func a.tmps).run c.P w = .ok v w) (p : Split H1 H' F) (hp : c.Post v H') :
    T c (.code .ret :: k) K H := by
  intro b a cs w hx hr h0 h1 h2 h3 h4 h5 h6 h7
  have hw := h7.at_pt pd
  have hlt : d < w.heap.size := (Array.getElem?_eq_some_iff.1 hw).1
  obtain ⟨hx1, g1, st1⟩ := h7.put pd (w' := w.putObj d (.deferred none)) (o' := .deferred none) rfl rfl rfl (by simp) (World.putObj_heap_same hlt) (fun k hk => World.putObj_heap_other hk)
  obtain ⟨ha, hb, j, _, s⟩ := g1.sat
  have g2 : G (w.putObj d (.deferred none)) H1 hb hr := ⟨s, fun q u e => g1.own q u (j.right e), g1.red, fun q => (g1.dj q).imp (fun h => (j.isNone.1 h).2) id⟩
  have st2 : Stp (w.putObj d (.deferred none)) hx1 hr (w.putObj d (.deferred none)) hb hr := ⟨rfl, rfl, rfl, Nat.le_refl _, fun _ _ _ => rfl, fun k h _ => (j.isNone.1 h).2, Hp.le_refl _, fun _ _ h _ => h⟩
  obtain ⟨hx3, g3, st3⟩ := g2.drop p
  have hd : a.defers = [mrk d] := h5.trans hds
  have s1 := stepR_ret (P := c.P) (b := b) (a := a) (k := k) (cs := cs) (w := w) (h3.trans hro)
  have s2 := step_collected (P := c.P) (fr := { b.atR a (.code .ret :: k) with mode := .returning }) (cs := cs) (w := w) (d := mrk d) (ds := []) (calls := []) (by simp) (by simp [Frame.atR, hd]) rfl (run_takeDeferred hw)
  refine ⟨v, _, _, H', hx3, hr, hp, g3, (st1.trans st2).trans st3, .head s1 (.one s2), ?_⟩
  unfold EndsAt
  rw [hro]
  exact ⟨_, rfl, h1, rfl, rfl, h2, c.func, by simpa [Frame.atR, h1] using h0, hres a _ _ _ h6 g2⟩

end Go.SL
