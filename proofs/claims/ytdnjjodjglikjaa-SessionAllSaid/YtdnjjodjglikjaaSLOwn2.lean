/- Slices, more: literals, writing, make, copy, cutting, and how an atom turns into another one. No program is named here; the conditions stand in each law. -/
import Derived.Test.YtdnjjodjglikjaaSLLoop
namespace Go.SL
open Go

variable {c : Cx} {K : List (Nat × Value)} {H : List Atom} {d : Option Tmp} {ty : TypeId} {pos : String} {af : Array Edge} {gd : Option (Nat × Bool)} {t t' yt : TypeId} {x y z : Operand}
variable {α : Type} {E : Enc α} {v : Value} {xs : List α} {k : List Item}

theorem Upd.mk : ∀ {n : Nat} {l vs : List Value}, n + vs.length ≤ l.length → Upd l n vs (l.take n ++ vs ++ l.drop (n + vs.length))
  | 0, l, [], _ => by simpa using Upd.nil
  | 0, [], v :: vs, h => by simp at h
  | 0, x :: l, v :: vs, h => by
    have := Upd.zero (x := x) (v := v) (Upd.mk (n := 0) (l := l) (vs := vs) (by simpa using h))
    simpa using this
  | n + 1, [], vs, h => by simp at h
  | n + 1, x :: l, vs, h => by
    have := Upd.succ (x := x) (Upd.mk (n := n) (l := l) (vs := vs) (by simp at h; omega))
    simpa [Nat.add_right_comm] using this

/-- A literal's parts, from place i on. -/
inductive LitR (E : Enc α) : List (Nat × Value) → Nat → List α → Prop
  | nil {i : Nat} : LitR E [] i []
  | cons {ps : List (Nat × Value)} {i : Nat} {v : Value} {a : α} {as : List α} : CellsR v (E.f a) → LitR E ps (i + 1) as → LitR E ((i, v) :: ps) i (a :: as)
theorem LitR.fill {ps : List (Nat × Value)} {i : Nat} (h : LitR E ps i xs) : ∀ (pre z : List Value), pre.length = i * E.s → z.length = xs.length * E.s →
    Fill (fun i => some (i * E.s, E.s)) (pre ++ z) ps (pre ++ E.cells xs) := by
  induction h with
  | nil => intro pre z _ hz; have : z = [] := List.eq_nil_of_length_eq_zero (by simpa using hz); subst this; exact .nil
  | @cons ps i v a as hc _ ih =>
    intro pre z hp hz
    simp only [List.length_cons, Nat.succ_mul] at hz
    have hu := Upd.mk (n := i * E.s) (l := pre ++ z) (vs := E.f a) (by rw [E.len, List.length_append]; omega)
    have e1 : (pre ++ z).take (i * E.s) = pre := by rw [← hp]; exact List.take_left
    have e2 : (pre ++ z).drop (i * E.s + (E.f a).length) = z.drop E.s := by rw [E.len, ← hp, List.drop_append]; simp
    rw [e1, e2] at hu
    refine .cons rfl hc (E.len a) hu ?_
    have := ih (pre ++ E.f a) (z.drop E.s) (by rw [List.length_append, E.len, hp, Nat.succ_mul]) (by rw [List.length_drop]; omega)
    simpa [Enc.cells, List.append_assoc] using this
theorem Op1.lit {e : TypeId} {n : Nat} {ps : List (Nat × Operand)} {vs : List (Nat × Value)} {ie : TypeInfo} {zv : Value} (ht : c.P.underlying t = some (.slice e)) (hi : c.P.info? e = some ie) (hz : ie.zero = some zv) (hs : ie.size = E.s)
    (hps : evPs K ps = some vs) (hl : LitR E vs 0 xs) (hn : xs.length = n) (h0 : n * E.s ≠ 0) (hsm : n * E.s ≤ 16777216) :
    Op1 c ⟨d, .buildSlice t n ps.toArray, ty, pos, af, gd⟩ K H (fun v H' => H' = own E v e xs :: H) :=
  Op1.of_run (by simp) fun a w hx' hr hK hG => by
    subst hn
    have hmap : Array.map (fun (x : Nat × Operand) => (x.1, a.eval x.2)) ps.toArray = vs.toArray := by rw [← hK.evPs hps]; simp
    have hf := (hl.fill [] ((List.range (xs.length * ie.size)).map (zv.cells[· % zv.cells.size]!)) (by simp) (by simp [hs])).run
    simp only [List.nil_append] at hf
    have hb := run_buildSlice (P := c.P) w t e xs.length vs.toArray (E.cells xs).toArray ie zv ht hi hz (by rw [hs]; omega) (by rw [hs]; exact h0) (by
      rw [hs]
      rw [hs] at hf
      have : (Array.range (xs.length * E.s)).map (zv.cells[· % zv.cells.size]!) = Array.mk ((List.range (xs.length * E.s)).map (zv.cells[· % zv.cells.size]!)) := by apply Array.ext'; simp
      rw [this]
      exact hf)
    obtain ⟨hx2, g, st⟩ := hG.new (w' := w.alloc (.cells (E.cells xs).toArray e)) (o := .cells (E.cells xs).toArray e) rfl rfl rfl rfl
    refine ⟨.slice (some ⟨w.heap.size, 0, none⟩) xs.length xs.length, _, _, hx2, hr, rfl, ?_, st, .inl ?_⟩
    · obtain ⟨h5, h6, j, e5, s⟩ := g.sat
      refine ⟨⟨h5, h6, j, .inr ⟨w.heap.size, xs.length, _, rfl, e5, Nat.le_refl _, ?_, ?_, ?_⟩, s⟩, g.own, g.red, g.dj⟩
      · have : xs.length ≤ xs.length * E.s := Nat.le_mul_of_pos_right _ (by rcases Nat.eq_zero_or_pos E.s with h | h; · simp [h] at h0
                                                                            · exact h)
        unfold maxLen; omega
      · simp [E.length_cells]
      · rw [← E.length_cells]; simp
    · simp only [execOp, hmap, Sem.run_bind, hb, Result.andThen_ok, Sem.run_pure]
/-- '[]T{}' -/
theorem Op1.lit0 {e : TypeId} {ie : TypeInfo} (ht : c.P.underlying t = some (.slice e)) (hi : c.P.info? e = some ie) :
    Op1 c ⟨d, .buildSlice t 0 #[], ty, pos, af, gd⟩ K H (fun v H' => H' = own E v e ([] : List α) :: H) :=
  Op1.of_run (by simp) fun a w hx' hr hK hG => by
    obtain ⟨hx2, g, st⟩ := hG.new (w' := w.alloc (.cells #[] e)) (o := .cells #[] e) rfl rfl rfl rfl
    refine ⟨.slice (some ⟨w.heap.size, 0, none⟩) 0 0, _, _, hx2, hr, rfl, ?_, st, .inl ?_⟩
    · obtain ⟨h5, h6, j, e5, s⟩ := g.sat
      exact ⟨⟨h5, h6, j, .inr ⟨w.heap.size, 0, _, rfl, e5, Nat.le_refl _, by simp, by simp, by simp [Enc.cells]⟩, s⟩, g.own, g.red, g.dj⟩
    · have h0 : Array.range 0 = #[] := rfl
      simp [execOp, Instr.buildSlice, run_underlying ht, run_sizeOf hi, Instr.fill, newRow, h0]

/-! ### An atom turns into another one -/
theorem T.turn {A B : Atom} {H1 : List Atom} {td : List Item} (p : Pick A H H1) (hAB : ∀ hx hr, A.sat hx hr → B.sat hx hr) (h : T c td K (B :: H1)) : T c td K H := by
  intro b a cs w hx hr h0 h1 h2 h3 h4 h5 h6 h7
  refine h b a cs w hx hr h0 h1 h2 h3 h4 h5 h6 ⟨?_, h7.own, h7.red, h7.dj⟩
  obtain ⟨g1, g2, j, s1, s2⟩ := h7.sat.pick p
  exact ⟨g1, g2, j, hAB _ _ s1, s2⟩
theorem TR.turn {ops l : List Oper} {A B : Atom} {H1 : List Atom} (p : Pick A H H1) (hAB : ∀ hx hr, A.sat hx hr → B.sat hx hr) (h : TR c ops l k K (B :: H1)) : TR c ops l k K H :=
  fun n hn => T.turn p hAB (h n hn)
/-- A block written out is a slice of one's own. -/
theorem own_of_blk {b : Nat} {l : List Value} {e : TypeId} (hl : l = E.cells xs) (hm : xs.length ≤ maxLen) : ∀ hx hr, (blk b l e).sat hx hr → (own E (.slice (some ⟨b, 0, none⟩) xs.length xs.length) e xs).sat hx hr := by
  intro hx hr h
  subst hl
  exact .inr ⟨b, xs.length, _, rfl, h, Nat.le_refl _, hm, by simpa using E.length_cells xs, by rw [← E.length_cells]; simp⟩
theorem own_nil {e : TypeId} : (own E (.slice none 0 0) e ([] : List α)).sat emp emp := .inl ⟨rfl, rfl, fun _ => rfl⟩
/-- The nil slice is one's own, of nothing. -/
theorem T.nilOwn {td : List Item} (E : Enc α) (e : TypeId) (h : T c td K (own E (.slice none 0 0) e ([] : List α) :: H)) : T c td K H := by
  intro b a cs w hx hr h0 h1 h2 h3 h4 h5 h6 h7
  exact h b a cs w hx hr h0 h1 h2 h3 h4 h5 h6 ⟨⟨emp, hx, .emp_left hx, .inl ⟨rfl, rfl, fun _ => rfl⟩, h7.sat⟩, h7.own, h7.red, h7.dj⟩
theorem TR.nilOwn {ops l : List Oper} (E : Enc α) (e : TypeId) (h : TR c ops l k K (own E (.slice none 0 0) e ([] : List α) :: H)) : TR c ops l k K H :=
  fun n hn => T.nilOwn E e (h n hn)
theorem T.nilRsl {td : List Item} (E : Enc α) (h : T c td K (rsl E (.slice none 0 0) ([] : List α) :: H)) : T c td K H := by
  intro b a cs w hx hr h0 h1 h2 h3 h4 h5 h6 h7
  exact h b a cs w hx hr h0 h1 h2 h3 h4 h5 h6 ⟨⟨emp, hx, .emp_left hx, ⟨fun _ => rfl, .inl ⟨rfl, rfl⟩⟩, h7.sat⟩, h7.own, h7.red, h7.dj⟩
/-- What one owns is to be read alone, from now on. -/
theorem T.shut {td : List Item} {e : TypeId} {H1 : List Atom} (p : Pick (own E v e xs) H H1) (h : T c td K (rsl E v xs :: H1)) : T c td K H := by
  intro b a cs w hx hr h0 h1 h2 h3 h4 h5 h6 h7
  obtain ⟨g1, g2, j, s1, s2⟩ := h7.sat.pick p
  rcases s1 with ⟨rfl, rfl, he⟩ | ⟨g, cap, cur, rfl, rfl, h8, h9, h10, h11⟩
  · exact h b a cs w hx hr h0 h1 h2 h3 h4 h5 h6 ⟨⟨g1, g2, j, ⟨he, .inl ⟨rfl, rfl⟩⟩, s2⟩, h7.own, h7.red, h7.dj⟩
  · have hxg : hx g = some (.cells cur e (0, 0)) := j.left (by simp [one])
    have hrg : hr g = none := by
      rcases h7.dj g with h | h
      · rw [hxg] at h; cases h
      · exact h
    have g2g : g2 g = none := by
      rcases j.dj g with h | h
      · simp [one] at h
      · exact h
    let hr' : Hp := fun k => if k = g then some (.cells cur e (0, 0)) else hr k
    have hle : Hp.le hr hr' := fun k o e => by
      by_cases hk : k = g
      · subst hk; rw [hrg] at e; cases e
      · simp [hr', hk, e]
    have G' : G w (rsl E (.slice (some ⟨g, 0, none⟩) xs.length cap) xs :: H1) g2 hr' := by
      refine ⟨⟨emp, g2, .emp_left g2, ⟨fun _ => rfl, .inr ⟨g, 0, cap, cur, e, (0, 0), rfl, h8, h9, by simp [hr'], by simpa using h11⟩⟩, s2.mono hle⟩, fun k o e => h7.own k o (j.right e), fun k o ek => ?_, fun k => ?_⟩
      · by_cases hk : k = g
        · subst hk
          simp [hr'] at ek
          subst ek
          exact h7.own _ _ hxg
        · simp [hr', hk] at ek
          exact h7.red k o ek
      · by_cases hk : k = g
        · subst hk; exact .inl g2g
        · rcases h7.dj k with h | h
          · exact .inl (j.isNone.1 h).2
          · exact .inr (by simp [hr', hk, h])
    have st : Stp w hx hr w g2 hr' := ⟨rfl, rfl, rfl, Nat.le_refl _, fun _ _ _ => rfl, fun k h _ => (j.isNone.1 h).2, hle, fun k h h' _ => by
      have hk : k ≠ g := fun e => by rw [e, hxg] at h; cases h
      simp [hr', hk, h']⟩
    obtain ⟨v, w2, m, H', hx2, hr2, p2, g3, st2, s3, e2⟩ := h b a cs w g2 hr' h0 h1 h2 h3 h4 h5 h6 G'
    exact ⟨v, w2, m, H', hx2, hr2, p2, g3, st.trans st2, s3, e2⟩
theorem TR.shut {ops l : List Oper} {e : TypeId} {H1 : List Atom} (p : Pick (own E v e xs) H H1) (h : TR c ops l k K (rsl E v xs :: H1)) : TR c ops l k K H :=
  fun n hn => T.shut p (h n hn)

/-! ### Writing -/
theorem take_splice {β : Type} {L A us : List β} {n j : Nat} (hA : L.take n = A) (hn : n ≤ L.length) (hj : j + us.length ≤ n) :
    (L.take j ++ us ++ L.drop (j + us.length)).take n = A.take j ++ us ++ A.drop (j + us.length) := by
  subst hA
  rw [List.take_take, Nat.min_eq_left (by omega), List.take_append, List.take_of_length_le (by simp; omega), List.drop_take]
  congr 2
  simp only [List.length_append, List.length_take]
  omega
theorem splice_in {β : Type} {A us : List β} {m q s : Nat} (hl : m + s ≤ A.length) (hq : q + us.length ≤ s) :
    A.take (m + q) ++ us ++ A.drop (m + q + us.length) = A.take m ++ (((A.drop m).take s).take q ++ us ++ ((A.drop m).take s).drop (q + us.length)) ++ A.drop (m + s) := by
  have h1 : A.drop (m + q + us.length) = (A.drop m).drop (q + us.length) := by rw [List.drop_drop, Nat.add_assoc]
  have h2 : A.drop (m + s) = (A.drop m).drop s := by rw [List.drop_drop]
  have h3 : (A.drop m).drop (q + us.length) = ((A.drop m).take s).drop (q + us.length) ++ (A.drop m).drop s := by
    conv => lhs; rw [← List.take_append_drop s (A.drop m)]
    rw [List.drop_append_of_le_length (by simp; omega)]
  rw [h1, h2, h3, List.take_add, List.take_take, Nat.min_eq_left (by omega)]
  simp [List.append_assoc]
theorem Op1.stO {e : TypeId} {s i q n : Nat} {a a' : α} {u : Value} {us : List Value} {H1 : List Atom} (hi : (c.P.info? t).map (·.size) = some n) (hx : evK K x = some (.pointer (some (elI v s i q)))) (p : Pick (own E v e xs) H H1) (hE : E.s = s)
    (hy : evK K y = some u) (hus : CellsR u us) (hlen : us.length = n) (h1 : (us.all (·.oneCell')) = true) (ha : xs[i]? = some a) (hu : Upd (E.f a) q us (E.f a')) :
    Op1 c ⟨d, .store t x y, ty, pos, af, gd⟩ K H (ret undef (own E v e (xs.set i a') :: H1)) :=
  Op1.of_run (by simp) fun ac w hx' hr hK hG => by
    subst hE
    obtain ⟨j, hj⟩ : ∃ j, j = i * E.s + q := ⟨_, rfl⟩
    have hx : evK K x = some (.pointer (some (elA v j))) := by rw [hj]; exact hx
    obtain ⟨ti, hti, hn⟩ := Option.map_eq_some_iff.1 hi
    have hn' : ti.size = n := hn
    obtain ⟨g1, g2, jn, s1, s2⟩ := hG.sat.pick p
    have hil : i < xs.length := (List.getElem?_eq_some_iff.1 ha).1
    rcases s1 with ⟨_, rfl, _⟩ | ⟨g, cap, cur, rfl, rfl, h8, h9, h10, h11⟩
    · simp at ha
    · have hw : w.heap[g]? = some (.cells cur e (0, 0)) := hG.own _ _ (jn.left (by simp [one]))
      obtain ⟨hu1, hu2⟩ := hu.eq
      rw [E.len] at hu1
      have hmul : i * E.s + E.s ≤ xs.length * E.s := by rw [← Nat.succ_mul]; exact Nat.mul_le_mul_right _ hil
      have h12 : cur.toList.length = cap * E.s := by simpa using h10
      have hcurl : xs.length * E.s ≤ cur.toList.length := by rw [h12]; exact Nat.mul_le_mul_right _ h8
      have hU := Upd.mk (n := j) (l := cur.toList) (vs := us) (by omega)
      generalize hL : cur.toList.take j ++ us ++ cur.toList.drop (j + us.length) = L at hU
      obtain ⟨w', r, a1, a2, a3, a4, a5, a6⟩ := heap_storeCells (P := c.P) us j 0 cur.toList L w hw (by simpa using hU) (by simpa [List.all_eq_true] using h1)
      have g0 : G w (pt g (.cells cur e (0, 0)) :: H1) hx' hr := ⟨⟨_, g2, jn, rfl, s2⟩, hG.own, hG.red, hG.dj⟩
      obtain ⟨hx2, g3, st⟩ := g0.put .here (o' := .cells ⟨L⟩ e (0, 0)) a1 a2 a3 a4.symm a5 a6
      have hLl : L.length = cap * E.s := by
        rw [← hL]
        simp only [List.length_append, List.length_take, List.length_drop]
        omega
      have hset : L.take (xs.length * E.s) = E.cells (xs.set i a') := by
        have hAl : (E.cells xs).length = xs.length * E.s := E.length_cells xs
        have hfa : E.f a = ((E.cells xs).drop (i * E.s)).take E.s := by
          rw [E.cells_drop]
          have : xs.drop i = a :: xs.drop (i + 1) := by
            rw [List.drop_eq_getElem_cons hil]
            congr 1
            exact (List.getElem?_eq_some_iff.1 ha).2
          rw [this]
          have := E.cells_take (a :: xs.drop (i + 1)) 1
          simp only [Nat.one_mul, List.take_succ_cons, List.take_zero] at this
          rw [this]
          simp [Enc.cells]
        rw [E.cells_set a' hil, hu2, hfa, ← splice_in (by omega) hu1, ← hj, ← hL]
        exact take_splice h11 hcurl (by omega)
      obtain ⟨k1, k2, jk, ek, sk⟩ := g3.sat
      refine ⟨undef, w', _, hx2, hr, ⟨rfl, rfl⟩, ⟨⟨k1, k2, jk, ?_, sk⟩, g3.own, g3.red, g3.dj⟩, st, .inr ⟨rfl, ?_⟩⟩
      · refine .inr ⟨g, cap, ⟨L⟩, by simp, ek, by simpa using h8, h9, by simpa using hLl, ?_⟩
        simpa using hset
      · have hsz : u.cells.size = ti.size := by rw [hus.eq, hn']; simpa using hlen
        have r' : (storeCells (elA (.slice (some ⟨g, 0, none⟩) xs.length cap) j) us 0).run c.P w = .ok () w' := by simpa [elA, elB, elO] using r
        simp [execOp, Instr.storeAt, Instr.sureAddr, hK.eval hx, hK.eval hy, storeVar, run_sizeOf hti, hsz]
        rw [hus.eq]
        simp [r']

end Go.SL
