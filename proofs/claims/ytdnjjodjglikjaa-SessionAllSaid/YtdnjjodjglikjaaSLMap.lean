/- A map of whole numbers of one's own: make, look up, lay in, delete, len. No program is named here; the conditions stand in each law. -/
import Derived.Test.YtdnjjodjglikjaaSLDraw4
import Derived.Test.YtdnjjodjglikjaaSLChan
import Derived.MapKept
namespace Go.SL
open Go

def ent (es : List MapEntry) (l : List (Int × Value)) : Prop := es.map (fun e => (e.key, e.val)) = l.map (fun p => (Value.int .i64 p.1, p.2))
/-- A map of one's own: its keys and values, in the order in which they came. -/
def mp (r : Nat) (l : List (Int × Value)) : Atom := SL.ex fun (p : Array MapEntry × Nat) => [pt r (.map p.1 p.2), SL.fact (ent p.1.toList l)]

def mfind (n : Int) : List (Int × Value) → Nat → Option (Nat × Value)
  | [], _ => none
  | p :: l, i => if n = p.1 then some (i, p.2) else mfind n l (i + 1)
def mget (n : Int) : List (Int × Value) → Option Value
  | [] => none
  | p :: l => if n = p.1 then some p.2 else mget n l
def mdel (n : Int) : List (Int × Value) → List (Int × Value)
  | [] => []
  | p :: l => if n = p.1 then l else p :: mdel n l

theorem mfind_get (n : Int) (l : List (Int × Value)) (i : Nat) : (mfind n l i).map (·.2) = mget n l := by
  induction l generalizing i with
  | nil => rfl
  | cons p l ih => simp only [mfind, mget]; split <;> simp [ih]
theorem mfind_none {n : Int} {l : List (Int × Value)} {i : Nat} (h : mfind n l i = none) : mdel n l = l := by
  induction l generalizing i with
  | nil => rfl
  | cons p l ih =>
    simp only [mfind] at h
    simp only [mdel]
    split at h
    · cases h
    · rename_i hn
      rw [if_neg hn, ih h]
theorem mfind_some {n : Int} {l : List (Int × Value)} {i j : Nat} {v : Value} (h : mfind n l i = some (j, v)) : i ≤ j ∧ j - i < l.length ∧ l.eraseIdx (j - i) = mdel n l := by
  induction l generalizing i with
  | nil => cases h
  | cons p l ih =>
    simp only [mfind] at h
    simp only [mdel]
    split at h
    · rename_i hn
      simp only [Option.some.injEq, Prod.mk.injEq] at h
      rw [if_pos hn, ← h.1]
      simp
    · rename_i hn
      obtain ⟨h1, h2, h3⟩ := ih h
      rw [if_neg hn, show j - i = (j - (i + 1)) + 1 from by omega, List.eraseIdx_cons_succ, h3]
      exact ⟨by omega, by simp only [List.length_cons]; omega, rfl⟩
theorem ent_find {n : Int} : ∀ {es : List MapEntry} {l : List (Int × Value)} (i : Nat), ent es l → Instr.findNow (.int .i64) (.int .i64 n) es i = some (mfind n l i)
  | [], [], i, _ => rfl
  | [], p :: l, _, h => by simp [ent] at h
  | e :: es, [], _, h => by simp [ent] at h
  | e :: es, p :: l, i, h => by
    simp only [ent, List.map_cons, List.cons.injEq, Prod.mk.injEq] at h
    have ih := ent_find (n := n) (es := es) (l := l) (i + 1) h.2
    simp only [Instr.findNow, mfind, h.1.1, Instr.sameNow, if_true]
    by_cases hn : n = p.1
    · simp [hn, h.1.2]
    · rw [show (n == p.1) = false from by simpa using hn, if_neg hn]
      exact ih
theorem ent_len {es : List MapEntry} {l : List (Int × Value)} (h : ent es l) : es.length = l.length := by
  have := congrArg List.length h
  simpa using this
theorem ent_erase {es : List MapEntry} {l : List (Int × Value)} (h : ent es l) (i : Nat) : ent (es.eraseIdx i) (l.eraseIdx i) := by
  unfold ent at h ⊢
  have e : ∀ {α β : Type} (f : α → β) (l : List α) (i : Nat), (l.eraseIdx i).map f = (l.map f).eraseIdx i := by
    intro α β f l
    induction l with
    | nil => intro i; rfl
    | cons a l ih => intro i; cases i with
      | zero => rfl
      | succ i => simp [ih]
  rw [e, e, h]
theorem ent_push {es : List MapEntry} {l : List (Int × Value)} (h : ent es l) (n : Int) (v : Value) (born : Nat) : ent (es ++ [{ key := .int .i64 n, val := v, born := born }]) (l ++ [(n, v)]) := by
  unfold ent at h ⊢
  simp [h]

variable {c : Cx} {K : List (Nat × Value)} {H : List Atom} {d : Option Tmp} {ty : TypeId} {pos : String} {af : Array Edge} {gd : Option (Nat × Bool)} {t t' yt : TypeId} {x y z : Operand}

theorem G.mp {w : World} {r : Nat} {l : List (Int × Value)} {H1 : List Atom} {hx hr : Hp} (p : Pick (SL.mp r l) H H1) (g : G w H hx hr) :
    ∃ es ck, w.heap[r]? = some (.map es ck) ∧ ent es.toList l ∧ ∀ (es' : Array MapEntry) (ck' : Nat) (l' : List (Int × Value)), ent es'.toList l' →
      ∃ hx', G { w with heap := w.heap.setIfInBounds r (.map es' ck') } (SL.mp r l' :: H1) hx' hr ∧ Stp w hx hr { w with heap := w.heap.setIfInBounds r (.map es' ck') } hx' hr := by
  obtain ⟨h1, h2, j, ⟨⟨es, ck⟩, hs⟩, s2⟩ := g.sat.pick p
  obtain ⟨h3, h4, j', e, h5, h6, j5, ⟨e5, he⟩, e6⟩ := hs
  have h4e : ∀ k, h4 k = none := fun k => j5.isNone.2 ⟨e5 k, e6 k⟩
  have h41 : h1 = one r (.map es ck) := by
    have := j'.comm.of_emp h4e
    rw [this]; exact e
  subst h41
  have hw := g.own _ _ (j.left (k := r) (by simp [one]; rfl))
  refine ⟨es, ck, hw, he, fun es' ck' l' he' => ?_⟩
  have hlt : r < w.heap.size := (Array.getElem?_eq_some_iff.1 hw).1
  have g0 : G w (pt r (.map es ck) :: H1) hx hr := ⟨⟨_, h2, j, rfl, s2⟩, g.own, g.red, g.dj⟩
  obtain ⟨hx', g', st2⟩ := g0.put .here (w' := { w with heap := w.heap.setIfInBounds r (.map es' ck') }) (o' := .map es' ck')
    rfl rfl rfl (by simp) (by simp [hlt]) (fun k hk => by simp [Array.getElem?_setIfInBounds_ne (Ne.symm hk)])
  obtain ⟨h7, h8, j'', e7, s8⟩ := g'.sat
  exact ⟨hx', ⟨⟨h7, h8, j'', ⟨(es', ck'), ⟨h7, emp, (Join.emp_left h7).comm, e7, emp, emp, Join.emp_left _, ⟨fun _ => rfl, he'⟩, fun _ => rfl⟩⟩, s8⟩, g'.own, g'.red, g'.dj⟩, st2⟩

theorem Op1.makeMap : Op1 c ⟨d, .makeMap t none, ty, pos, af, gd⟩ K H (fun v H' => ∃ r, v = .map (some r) ∧ H' = mp r [] :: H) :=
  Op1.of_run (by simp) fun a w hx' hr hK hG => by
    obtain ⟨hx2, g, st⟩ := hG.new (w' := { w with heap := w.heap.push (.map #[] 0) }) (o := .map #[] 0) rfl rfl rfl rfl
    refine ⟨_, _, _, hx2, hr, ⟨w.heap.size, rfl, rfl⟩, ?_, st, .inl ?_⟩
    · obtain ⟨h5, h6, j'', e, s'⟩ := g.sat
      exact ⟨⟨h5, h6, j'', ⟨(#[], 0), ⟨h5, emp, (Join.emp_left h5).comm, e, emp, emp, Join.emp_left _, ⟨fun _ => rfl, rfl⟩, fun _ => rfl⟩⟩, s'⟩, g.own, g.red, g.dj⟩
    · simp [execOp, Instr.makeMap, run_newObj]
theorem Op1.lenMap {k e : TypeId} {r : Nat} {l : List (Int × Value)} {H1 : List Atom} (ht : c.P.underlying t = some (.map k e)) (hx : evK K x = some (.map (some r))) (p : Pick (mp r l) H H1) :
    Op1 c ⟨d, .call ⟨.builtin .len, #[x], #[t]⟩, ty, pos, af, gd⟩ K H (ret (.int .i64 l.length) H) :=
  Op1.of_val (by simp) _ fun a w _ _ hK hG => by
    obtain ⟨es, ck, hw, he, _⟩ := hG.mp p
    have := ent_len he
    have hs : es.size = l.length := by simpa using this
    simp [execOp, resolve, invoke, builtin, Builtin.len_, hK.eval hx, run_underlying ht, goInt, MapKept.run_getObj_map hw, hs]
theorem Op1.lookup {k e : TypeId} {r : Nat} {l : List (Int × Value)} {n : Int} {zv : Value} {i : TypeInfo} {H1 : List Atom} (ht : c.P.underlying t = some (.map k e)) (hk : c.P.underlying k = some (.int .i64)) (hi : c.P.info? e = some i) (hz : i.zero = some zv)
    (hx : evK K x = some (.map (some r))) (hy : evK K y = some (.int .i64 n)) (p : Pick (mp r l) H H1) :
    Op1 c ⟨d, .lookup t x y true, ty, pos, af, gd⟩ K H (ret (.tuple #[(mget n l).getD zv, .bool (mget n l).isSome]) H) :=
  Op1.of_val (by simp) _ fun a w _ _ hK hG => by
    obtain ⟨es, ck, hw, he, _⟩ := hG.mp p
    have hf := MapKept.run_findKey (P := c.P) (w := w) hk (ent_find (n := n) 0 he)
    have hc := MapKept.run_checkKey (P := c.P) (w := w) hk (k := .int .i64 n) rfl es.isEmpty 9999
    have hg := mfind_get n l 0
    cases hm : mfind n l 0 with
    | none =>
      rw [hm] at hf hg
      rw [← hg]
      simp [execOp, Instr.lookup, hK.eval hx, hK.eval hy, run_underlying ht, MapKept.run_getObj_map hw, hc, hf, run_zeroValue hi hz]
    | some q =>
      obtain ⟨j, v⟩ := q
      rw [hm] at hf hg
      rw [← hg]
      simp [execOp, Instr.lookup, hK.eval hx, hK.eval hy, run_underlying ht, MapKept.run_getObj_map hw, hc, hf]
theorem Op1.mapAdd {k e : TypeId} {r : Nat} {l : List (Int × Value)} {n : Int} {v : Value} {H1 : List Atom} (ht : c.P.underlying t = some (.map k e)) (hk : c.P.underlying k = some (.int .i64))
    (hx : evK K x = some (.map (some r))) (hy : evK K y = some (.int .i64 n)) (hz : evK K z = some v) (p : Pick (mp r l) H H1) (hn : mget n l = none) :
    Op1 c ⟨d, .mapUpdate t x y z, ty, pos, af, gd⟩ K H (ret undef (mp r (l ++ [(n, v)]) :: H1)) :=
  Op1.of_run (by simp) fun a w hx' hr hK hG => by
    obtain ⟨es, ck, hw, he, hg⟩ := hG.mp p
    obtain ⟨hx2, g, st⟩ := hg (es.push { key := .int .i64 n, val := v, born := ck }) (ck + 1) (l ++ [(n, v)]) (by rw [Array.toList_push]; exact ent_push he n v ck)
    refine ⟨_, _, _, hx2, hr, ⟨rfl, rfl⟩, g, st, .inr ⟨rfl, ?_⟩⟩
    have hf := MapKept.run_findKey (P := c.P) (w := w) hk (ent_find (n := n) 0 he)
    have hc := MapKept.run_checkKey (P := c.P) (w := w) hk (k := .int .i64 n) rfl false 9999
    have hm : mfind n l 0 = none := by
      have := mfind_get n l 0
      rw [hn] at this
      simpa using this
    rw [hm] at hf
    simp [execOp, Instr.mapUpdate, hK.eval hx, hK.eval hy, hK.eval hz, run_underlying ht, MapKept.run_getObj_map hw, hc, hf, MapKept.run_setObj_map _ hw]
theorem Op1.mapDel {k e : TypeId} {r : Nat} {l : List (Int × Value)} {n : Int} {H1 : List Atom} {yt : TypeId} (ht : c.P.underlying t = some (.map k e)) (hk : c.P.underlying k = some (.int .i64))
    (hx : evK K x = some (.map (some r))) (hy : evK K y = some (.int .i64 n)) (p : Pick (mp r l) H H1) :
    Op1 c ⟨d, .call ⟨.builtin .delete, #[x, y], #[t, yt]⟩, ty, pos, af, gd⟩ K H (ret (.tuple #[]) (mp r (mdel n l) :: H1)) :=
  Op1.of_run (by simp) fun a w hx' hr hK hG => by
    obtain ⟨es, ck, hw, he, hg⟩ := hG.mp p
    have hf := MapKept.run_findKey (P := c.P) (w := w) hk (ent_find (n := n) 0 he)
    have hc := MapKept.run_checkKey (P := c.P) (w := w) hk (k := .int .i64 n) rfl es.isEmpty 9999
    cases hm : mfind n l 0 with
    | none =>
      obtain ⟨hx2, g, st⟩ := hg es ck (mdel n l) (by rw [mfind_none hm]; exact he)
      refine ⟨_, _, _, hx2, hr, ⟨rfl, rfl⟩, g, st, .inl ?_⟩
      rw [hm] at hf
      simp [execOp, resolve, invoke, builtin, Builtin.delete_, hK.eval hx, hK.eval hy, run_underlying ht, MapKept.run_getObj_map hw, hc, hf, MapKept.run_setObj_map _ hw]
    | some q =>
      obtain ⟨j, v⟩ := q
      obtain ⟨_, h2, h3⟩ := mfind_some hm
      obtain ⟨hx2, g, st⟩ := hg (es.eraseIdxIfInBounds j) ck (mdel n l) (by
        have hl := ent_len he
        have hj : j < es.size := by rw [← Array.length_toList]; omega
        rw [Array.eraseIdxIfInBounds_eq, dif_pos hj, Array.toList_eraseIdx, ← h3]
        exact ent_erase he j)
      refine ⟨_, _, _, hx2, hr, ⟨rfl, rfl⟩, g, st, .inl ?_⟩
      rw [hm] at hf
      simp [execOp, resolve, invoke, builtin, Builtin.delete_, hK.eval hx, hK.eval hy, run_underlying ht, MapKept.run_getObj_map hw, hc, hf, MapKept.run_setObj_map _ hw]
theorem Op1.isLookup {d : Option Tmp} {t : TypeId} {x y : Operand} {o : Bool} {ty : TypeId} {pos : String} {af : Array Edge} {gd : Option (Nat × Bool)} {Q : Value → List Atom → Prop}
    (h : Op1 c ⟨d, .lookup t x y o, ty, pos, af, gd⟩ K H Q) : Op1 c ⟨d, .lookup t x y o, ty, pos, af, gd⟩ K H Q := h
theorem Op1.isMapUpdate {d : Option Tmp} {t : TypeId} {x y z : Operand} {ty : TypeId} {pos : String} {af : Array Edge} {gd : Option (Nat × Bool)} {Q : Value → List Atom → Prop}
    (h : Op1 c ⟨d, .mapUpdate t x y z, ty, pos, af, gd⟩ K H Q) : Op1 c ⟨d, .mapUpdate t x y z, ty, pos, af, gd⟩ K H Q := h
end Go.SL
