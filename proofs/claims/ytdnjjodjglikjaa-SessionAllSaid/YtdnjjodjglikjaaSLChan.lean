/- A channel with a buffer at which nobody waits: make, len, cap, a select of one case with a default. No program is named here; the conditions stand in each law. -/
import Derived.Test.YtdnjjodjglikjaaSLRange
import Derived.Conc.LoneSelect
import Derived.Conc.LoneSelectN
namespace Go.SL
open Go

/-- A channel of one's own: its capacity, what lies in it; open. -/
def ch (r cap : Nat) (buf : List Value) : Atom := SL.ex fun (p : Nat × Nat) => [pt r (.chan cap buf.toArray false p.1 p.2 false)]

variable {c : Cx} {K : List (Nat × Value)} {H : List Atom} {d : Option Tmp} {ty : TypeId} {pos : String} {af : Array Edge} {gd : Option (Nat × Bool)} {t t' yt : TypeId} {x y z : Operand}

theorem G.ch {w : World} {r cap : Nat} {buf : List Value} {H1 : List Atom} {hx hr : Hp} (p : Pick (SL.ch r cap buf) H H1) (g : G w H hx hr) :
    ∃ s q, w.heap[r]? = some (.chan cap buf.toArray false s q false) ∧ ∀ (buf' : List Value) (s' q' : Nat) (w' : World), w' = w.setChan r cap buf'.toArray false s' q' false → ∃ hx', G w' (SL.ch r cap buf' :: H1) hx' hr ∧ Stp w hx hr w' hx' hr := by
  obtain ⟨h1, h2, j, ⟨⟨s, q⟩, hs⟩, s2⟩ := g.sat.pick p
  obtain ⟨h3, h4, j', e, e0⟩ := hs
  have h41 : h1 = one r (.chan cap buf.toArray false s q false) := by
    have := j'.comm.of_emp e0
    rw [this]; exact e
  subst h41
  have hw := g.own _ _ (j.left (k := r) (by simp [one]; rfl))
  refine ⟨s, q, hw, fun buf' s' q' w' hw' => ?_⟩
  have hlt : r < w.heap.size := (Array.getElem?_eq_some_iff.1 hw).1
  have g0 : G w (pt r (.chan cap buf.toArray false s q false) :: H1) hx hr := ⟨⟨_, h2, j, rfl, s2⟩, g.own, g.red, g.dj⟩
  obtain ⟨hx', g', st2⟩ := g0.put .here (w' := w') (o' := .chan cap buf'.toArray false s' q' false)
    (by rw [hw']; rfl) (by rw [hw']; rfl) (by rw [hw']; rfl) (by rw [hw']; simp [World.setChan]) (by rw [hw']; simp [World.setChan, hlt]) (fun k hk => by rw [hw']; simp [World.setChan, Array.getElem?_setIfInBounds_ne (Ne.symm hk)])
  obtain ⟨h5, h6, j'', e, s6⟩ := g'.sat
  exact ⟨hx', ⟨⟨h5, h6, j'', ⟨(s', q'), ⟨h5, emp, (Join.emp_left h5).comm, e, fun _ => rfl⟩⟩, s6⟩, g'.own, g'.red, g'.dj⟩, st2⟩

theorem Op1.lenC {e : TypeId} {dir : ChanDir} {r cap : Nat} {buf : List Value} {H1 : List Atom} (ht : c.P.underlying t = some (.chan dir e)) (hx : evK K x = some (.chan (some r))) (p : Pick (ch r cap buf) H H1) :
    Op1 c ⟨d, .call ⟨.builtin .len, #[x], #[t]⟩, ty, pos, af, gd⟩ K H (ret (.int .i64 buf.length) H) :=
  Op1.of_val (by simp) _ fun a w _ _ hK hG => by
    obtain ⟨s, q, hw, _⟩ := hG.ch p
    have := Conc.run_len_chan (P := c.P) t ty ht hw
    simp [execOp, resolve, invoke, builtin, hK.eval hx, this, goInt]
theorem Op1.capC {e : TypeId} {dir : ChanDir} {r cap : Nat} {buf : List Value} {H1 : List Atom} (ht : c.P.underlying t = some (.chan dir e)) (hx : evK K x = some (.chan (some r))) (p : Pick (ch r cap buf) H H1) :
    Op1 c ⟨d, .call ⟨.builtin .cap, #[x], #[t]⟩, ty, pos, af, gd⟩ K H (ret (.int .i64 cap) H) :=
  Op1.of_val (by simp) _ fun a w _ _ hK hG => by
    obtain ⟨s, q, hw, _⟩ := hG.ch p
    have := Conc.run_cap_chan (P := c.P) t ty ht hw
    simp [execOp, resolve, invoke, builtin, hK.eval hx, this, goInt]
theorem Op1.makeChan {e : TypeId} {dir : ChanDir} {i : TypeInfo} {k : IntKind} {n : Int} (ht : c.P.underlying t = some (.chan dir e)) (hi : c.P.info? e = some i) (hx : evK K x = some (.int k n)) (h0 : 0 ≤ n) (h1 : n ≤ 9223372036854775807) (h2 : i.bytes * n ≤ 281474976710544) :
    Op1 c ⟨d, .makeChan t x, ty, pos, af, gd⟩ K H (fun v H' => ∃ r, v = .chan (some r) ∧ H' = ch r n.toNat [] :: H) :=
  Op1.of_run (by simp) fun a w hx' hr hK hG => by
    obtain ⟨hx2, g, st⟩ := hG.new (w' := { w with heap := w.heap.push (.chan n.toNat #[] false 0 0 false) }) (o := .chan n.toNat #[] false 0 0 false) rfl rfl rfl rfl
    refine ⟨_, _, _, hx2, hr, ⟨w.heap.size, rfl, rfl⟩, ?_, st, .inl ?_⟩
    · obtain ⟨h5, h6, j'', e, s'⟩ := g.sat
      exact ⟨⟨h5, h6, j'', ⟨(0, 0), ⟨h5, emp, (Join.emp_left h5).comm, e, fun _ => rfl⟩⟩, s'⟩, g.own, g.red, g.dj⟩
    · have hc : ¬ (n < 0 ∨ n > IntKind.i64.max ∨ (i.bytes : Int) * n > 2 ^ 48 - 112) := by
        have : IntKind.i64.max = 9223372036854775807 := by decide
        omega
      simp only [execOp, Instr.makeChan, Sem.run_bind, asInt, asIntOf, hK.eval hx, Sem.run_pure, Result.andThen_ok, run_underlying ht, typeInfo, run_program, hi, Sem.run_ite, if_neg hc, run_newObj]

/-- 'select { case v := <-ch: ..; default: .. }' -/
theorem Op1.selRecv {e : TypeId} {zv : Value} {i : TypeInfo} {r cap : Nat} {buf : List Value} {H1 : List Atom} (hi : c.P.info? e = some i) (hz : i.zero = some zv) (hx : evK K x = some (.chan (some r))) (p : Pick (ch r cap buf) H H1) :
    Op1 c ⟨d, .select #[⟨x, none, e⟩] false, ty, pos, af, gd⟩ K H (fun v H' => (buf = [] ∧ v = .tuple #[.int .i64 (-1), .bool false, zv] ∧ H' = H) ∨
      ∃ u us, buf = u :: us ∧ v = .tuple #[.int .i64 0, .bool true, u] ∧ H' = ch r cap us :: H1) := by
  intro ops b a cs k rest ii w hx' hr ho hw hk hro' hK hG
  obtain ⟨s, q, hwr, hg⟩ := hG.ch p
  have hexec : (execOp a.eval ⟨d, .select #[⟨x, none, e⟩] false, ty, pos, af, gd⟩).run c.P w = .ok (.comm #[Conc.rcase r zv] false .select) w := by
    simp [execOp, hK.eval hx, run_zeroValue hi hz, Conc.rcase]
  have hgo := stepGR_op (P := c.P) (b := b) (a := a) (k := k) (cs := cs) (w := w) (rest := rest) ho hw
  rw [Oper.semAt_eq _ _ _ (fun x => by simp)] at hgo
  have hfin : ∀ v, (b.atR a (.inRegion ops (ii :: rest) :: k)).finish v = b.atR (a.put d v) (.inRegion ops rest :: k) := by
    intro v; rw [Frame.finish_atR, ho]; rfl
  obtain ⟨es, hcomm⟩ : ∃ es, stepG c.P true (Conc.G (b.atR a (.inRegion ops (ii :: rest) :: k)) cs) w = .comm (Conc.G (b.atR a (.inRegion ops (ii :: rest) :: k)) cs) #[Conc.rcase r zv] false .select w es := by
    have : stepG c.P true (Conc.G (b.atR a (.inRegion ops (ii :: rest) :: k)) cs) w = _ := hgo
    rw [this]
    simp only [stepG.apply, Sem.runT_eq, hexec, if_true, GStep.after]
    exact ⟨_, rfl⟩
  cases buf with
  | nil =>
    have hs := Conc.step_lone_sel_default hcomm (fun cc hcc => by simp at hcc; subst hcc; exact Conc.noWay_recv hwr)
    have e1 : commResult #[Conc.rcase r zv] .select (-1) undef false = .tuple #[.int .i64 (-1), .bool false, zv] := by simp [commResult, Conc.rcase, goInt]
    rw [e1] at hs
    refine ⟨_, w, H, hx', hr, .inl ⟨rfl, rfl, rfl⟩, hG, Stp.refl _ _ _, .one ?_⟩
    rw [← hfin]
    exact hs
  | cons u us =>
    have hs := Conc.step_lone_select_recv_buf hcomm hwr (by simp)
    obtain ⟨hx2, g2, st⟩ := hg us s (q + 1) _ rfl
    refine ⟨_, _, _, hx2, hr, .inr ⟨u, us, rfl, rfl, rfl⟩, g2, st, .one ?_⟩
    rw [← hfin]
    have e1 : ((u :: us).toArray).extract 1 (u :: us).toArray.size = us.toArray := by simp
    rw [e1] at hs
    exact hs
/-- 'select { case ch <- x: ..; default: .. }' -/
theorem Op1.selSend {e : TypeId} {u zv : Value} {i : TypeInfo} {r cap : Nat} {buf : List Value} {H1 : List Atom} (hi : c.P.info? e = some i) (hz : i.zero = some zv) (hx : evK K x = some (.chan (some r))) (hy : evK K y = some u) (p : Pick (ch r cap buf) H H1) :
    Op1 c ⟨d, .select #[⟨x, some y, e⟩] false, ty, pos, af, gd⟩ K H (fun v H' => (cap ≤ buf.length ∧ v = .tuple #[.int .i64 (-1), .bool false] ∧ H' = H) ∨
      (buf.length < cap ∧ v = .tuple #[.int .i64 0, .bool false] ∧ H' = ch r cap (buf ++ [u]) :: H1)) := by
  intro ops b a cs k rest ii w hx' hr ho hw hk hro' hK hG
  obtain ⟨s, q, hwr, hg⟩ := hG.ch p
  have hexec : (execOp a.eval ⟨d, .select #[⟨x, some y, e⟩] false, ty, pos, af, gd⟩).run c.P w = .ok (.comm #[Conc.scase r u zv] false .select) w := by
    simp [execOp, hK.eval hx, hK.eval hy, run_zeroValue hi hz, Conc.scase]
  have hgo := stepGR_op (P := c.P) (b := b) (a := a) (k := k) (cs := cs) (w := w) (rest := rest) ho hw
  rw [Oper.semAt_eq _ _ _ (fun x => by simp)] at hgo
  have hfin : ∀ v, (b.atR a (.inRegion ops (ii :: rest) :: k)).finish v = b.atR (a.put d v) (.inRegion ops rest :: k) := by
    intro v; rw [Frame.finish_atR, ho]; rfl
  obtain ⟨es, hcomm⟩ : ∃ es, stepG c.P true (Conc.G (b.atR a (.inRegion ops (ii :: rest) :: k)) cs) w = .comm (Conc.G (b.atR a (.inRegion ops (ii :: rest) :: k)) cs) #[Conc.scase r u zv] false .select w es := by
    have : stepG c.P true (Conc.G (b.atR a (.inRegion ops (ii :: rest) :: k)) cs) w = _ := hgo
    rw [this]
    simp only [stepG.apply, Sem.runT_eq, hexec, if_true, GStep.after]
    exact ⟨_, rfl⟩
  by_cases hroom : buf.length < cap
  · have hs := Conc.step_lone_select_send_room hcomm hwr (by simpa using hroom)
    obtain ⟨hx2, g2, st⟩ := hg (buf ++ [u]) (s + 1) q _ rfl
    refine ⟨_, _, _, hx2, hr, .inr ⟨hroom, rfl, rfl⟩, g2, st, .one ?_⟩
    rw [← hfin]
    have e1 : buf.toArray.push u = (buf ++ [u]).toArray := by simp
    rw [e1] at hs
    exact hs
  · have hs := Conc.step_lone_select_send_full hcomm hwr (by simpa using hroom)
    refine ⟨_, w, H, hx', hr, .inl ⟨by omega, rfl, rfl⟩, hG, Stp.refl _ _ _, .one ?_⟩
    rw [← hfin]
    exact hs

end Go.SL
