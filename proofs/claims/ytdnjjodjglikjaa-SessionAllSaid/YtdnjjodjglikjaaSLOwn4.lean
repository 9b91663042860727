/- Slices, more: cutting, make, copy, clear. No program is named here; the conditions stand in each law. -/
import Derived.Test.YtdnjjodjglikjaaSLOwn3
import Derived.Laws.MakeOwn
namespace Go.SL
open Go

variable {c : Cx} {K : List (Nat × Value)} {H : List Atom} {d : Option Tmp} {ty : TypeId} {pos : String} {af : Array Edge} {gd : Option (Nat × Bool)} {t t' yt : TypeId} {x y z : Operand}
variable {α : Type} {E : Enc α} {v : Value} {xs : List α} {k : List Item}

theorem Op1.cutO {e : TypeId} {s : Nat} {lo hi : Option Operand} {l h : Int} (ht : c.P.underlying t = some (.slice e)) (hs : (c.P.info? e).map (·.size) = some s) (hx : evK K x = some v) (r : Rds H E v xs)
    (hlo : bndK K 0 lo = some l) (hhi : bndK K xs.length hi = some h) (h0 : 0 ≤ l) (h1 : l ≤ h) (h2 : h ≤ xs.length) :
    Op1 c ⟨d, .slice t x lo hi none, ty, pos, af, gd⟩ K H (ret (subV v s l.toNat h.toNat) H) :=
  Op1.of_val (by simp) _ fun a w _ _ hK hG => by
    obtain ⟨j, hj, rfl⟩ := Option.map_eq_some_iff.1 hs
    obtain ⟨p, cap, rfl, hle, _⟩ := r.spec hG
    have hb := run_bounds (P := c.P) (isS := true) (cap := cap) (bnd_lo hK hlo h0) (bnd_hi hK hhi (by omega)) (by omega) (by omega) w
    simp only [execOp, Instr.sliceAt, Sem.run_bind, run_underlying ht, Result.andThen_ok, Instr.slice, hK.eval hx, Option.map_none, hb, run_sizeOf hj]
    rfl

theorem rsl_cut {l h : Nat} (h1 : l ≤ h) (h2 : h ≤ xs.length) {hx hr : Hp} (s : (rsl E v xs).sat hx hr) : (rsl E (subV v E.s l h) ((xs.take h).drop l)).sat hx hr := by
  refine ⟨s.1, ?_⟩
  rcases s.2 with ⟨rfl, rfl⟩ | ⟨b, o, cap, cur, e, fz, rfl, h3, h4, h5, h6⟩
  · simp at h2; subst h2; simp at h1; subst h1
    exact .inl ⟨by simp [subV, cut], by simp⟩
  · have hlen : ((xs.take h).drop l).length = h - l := by simp; omega
    have hcells : E.cells ((xs.take h).drop l) = ((E.cells xs).take (h * E.s)).drop (l * E.s) := by rw [← E.cells_drop, ← E.cells_take]
    by_cases hc : cap = l
    · refine .inr ⟨b, o, cap - l, cur, e, fz, ?_, by omega, by omega, h5, ?_⟩
      · simp [subV, cut, hc, hlen]
      · have : h - l = 0 := by omega
        rw [hlen, this, hcells, ← h6]
        simp
        have : h * E.s ≤ l * E.s := Nat.mul_le_mul_right _ (by omega)
        omega
    · refine .inr ⟨b, o + l * E.s, cap - l, cur, e, fz, ?_, by omega, by omega, h5, ?_⟩
      · simp [subV, cut, hc, hlen, Addr.add_lit]
      · rw [hlen, hcells, ← h6]
        have hm : h * E.s ≤ xs.length * E.s := Nat.mul_le_mul_right _ h2
        rw [List.take_take, Nat.min_eq_left hm, List.drop_take, List.drop_drop, Nat.mul_sub_right_distrib]
/-- What is read only may be told of once more, a part of it alone. -/
theorem T.part {td : List Item} {H1 : List Atom} (l h : Nat) (p : Pick (rsl E v xs) H H1) (h1 : l ≤ h) (h2 : h ≤ xs.length) (hT : T c td K (rsl E (subV v E.s l h) ((xs.take h).drop l) :: H)) : T c td K H := by
  intro b a cs w hx hr h0 h1' h2' h3 h4 h5 h6 h7
  obtain ⟨g1, g2, j, s1, s2⟩ := h7.sat.pick p
  have he : g1 = emp := funext fun k => s1.1 k
  subst he
  exact hT b a cs w hx hr h0 h1' h2' h3 h4 h5 h6 ⟨⟨emp, hx, .emp_left hx, rsl_cut h1 h2 s1, h7.sat⟩, h7.own, h7.red, h7.dj⟩
theorem TR.part {ops l : List Oper} {H1 : List Atom} (i h : Nat) (p : Pick (rsl E v xs) H H1) (h1 : i ≤ h) (h2 : h ≤ xs.length) (hT : TR c ops l k K (rsl E (subV v E.s i h) ((xs.take h).drop i) :: H)) : TR c ops l k K H :=
  fun n hn => T.part i h p h1 h2 (hT n hn)
/-- The cut of what is read only, as a value of its own. -/
theorem Op1.cutR {e : TypeId} {s : Nat} {lo hi : Option Operand} {l h : Int} {H1 : List Atom} (ht : c.P.underlying t = some (.slice e)) (hs : (c.P.info? e).map (·.size) = some s) (hE : E.s = s) (hx : evK K x = some v) (p : Pick (rsl E v xs) H H1)
    (hlo : bndK K 0 lo = some l) (hhi : bndK K xs.length hi = some h) (h0 : 0 ≤ l) (h1 : l ≤ h) (h2 : h ≤ xs.length) :
    Op1 c ⟨d, .slice t x lo hi none, ty, pos, af, gd⟩ K H (fun v' H' => H' = rsl E v' ((xs.take h.toNat).drop l.toNat) :: H) := by
  subst hE
  intro ops b a cs k rest i w hx' hr ho hw hk hro hK hG
  obtain ⟨v', w', H', hx2, hr', ⟨rfl, rfl⟩, g', st, s⟩ := Op1.cutO (d := d) (ty := ty) (pos := pos) (af := af) (gd := gd) ht hs hx (.ro p) hlo hhi h0 h1 h2 ops b a cs k rest i w hx' hr ho hw hk hro hK hG
  obtain ⟨g1, g2, j, s1, s2⟩ := g'.sat.pick p
  have he : g1 = emp := funext fun k => s1.1 k
  subst he
  exact ⟨_, w', _, hx2, hr', rfl, ⟨⟨emp, hx2, .emp_left hx2, rsl_cut (by omega) (by omega) s1, g'.sat⟩, g'.own, g'.red, g'.dj⟩, st, s⟩

/-! ### Writing cells of one's own -/
theorem G.ownStore {P : Program} {w : World} {e : TypeId} {H1 : List Atom} {hx hr : Hp} (p : Pick (SL.own E v e xs) H H1) (g : G w H hx hr) {j : Nat} {us : List Value} {xs' : List α} (hlen : xs'.length = xs.length)
    (hj : j + us.length ≤ xs.length * E.s) (h1 : ∀ u ∈ us, u.oneCell' = true) (hsp : E.cells xs' = (E.cells xs).take j ++ us ++ (E.cells xs).drop (j + us.length)) :
    ∃ w' hx', (storeCells (elA v j) us 0).run P w = .ok () w' ∧ G w' (SL.own E v e xs' :: H1) hx' hr ∧ Stp w hx hr w' hx' hr := by
  obtain ⟨g1, g2, jn, s1, s2⟩ := g.sat.pick p
  rcases s1 with ⟨rfl, rfl, he⟩ | ⟨gg, cap, cur, rfl, rfl, h8, h9, h10, h11⟩
  · simp at hlen hj
    obtain ⟨rfl, rfl⟩ := hj
    subst hlen
    exact ⟨w, hx, rfl, ⟨⟨g1, g2, jn, .inl ⟨rfl, rfl, he⟩, s2⟩, g.own, g.red, g.dj⟩, Stp.refl _ _ _⟩
  · have hw : w.heap[gg]? = some (.cells cur e (0, 0)) := g.own _ _ (jn.left (by simp [SL.one]))
    have h12 : cur.toList.length = cap * E.s := by simpa using h10
    have hcurl : xs.length * E.s ≤ cur.toList.length := by rw [h12]; exact Nat.mul_le_mul_right _ h8
    have hU := Upd.mk (n := j) (l := cur.toList) (vs := us) (by omega)
    generalize hL : cur.toList.take j ++ us ++ cur.toList.drop (j + us.length) = L at hU
    obtain ⟨w', r, a1, a2, a3, a4, a5, a6⟩ := heap_storeCells (P := P) us j 0 cur.toList L w hw (by simpa using hU) h1
    have g0 : G w (pt gg (.cells cur e (0, 0)) :: H1) hx hr := ⟨⟨_, g2, jn, rfl, s2⟩, g.own, g.red, g.dj⟩
    obtain ⟨hx2, g3, st⟩ := g0.put .here (o' := .cells ⟨L⟩ e (0, 0)) a1 a2 a3 a4.symm a5 a6
    have hLl : L.length = cap * E.s := by
      rw [← hL]
      simp only [List.length_append, List.length_take, List.length_drop]
      omega
    obtain ⟨k1, k2, jk, ek, sk⟩ := g3.sat
    refine ⟨w', hx2, by simpa [elA, elB, elO] using r, ⟨⟨k1, k2, jk, ?_, sk⟩, g3.own, g3.red, g3.dj⟩, st⟩
    refine .inr ⟨gg, cap, ⟨L⟩, by rw [hlen], ek, by rw [hlen]; exact h8, h9, by simpa using hLl, ?_⟩
    rw [hlen, hsp, ← hL]
    exact take_splice h11 hcurl hj

theorem splice_cells {ys : List α} {i : Nat} (h : i + ys.length ≤ xs.length) : E.cells (xs.take i ++ ys ++ xs.drop (i + ys.length)) = (E.cells xs).take (i * E.s) ++ E.cells ys ++ (E.cells xs).drop (i * E.s + (E.cells ys).length) := by
  rw [E.cells_append, E.cells_append, ← E.cells_take, ← E.cells_drop, E.length_cells, Nat.add_mul]
theorem Op1.copyO {e e' t2 : TypeId} {u : Value} {ys : List α} {H1 : List Atom} (ht : c.P.underlying t = some (.slice e)) (hs : (c.P.info? e).map (·.size) = some E.s) (hx : evK K x = some v) (p : Pick (own E v e' xs) H H1)
    (hy : evK K y = some u) (r : Rds H1 E u ys) :
    Op1 c ⟨d, .call ⟨.builtin .copy, #[x, y], #[t, t2]⟩, ty, pos, af, gd⟩ K H (ret (.int .i64 (Min.min ys.length xs.length : Nat)) (own E v e' (ys.take (Min.min ys.length xs.length) ++ xs.drop (Min.min ys.length xs.length)) :: H1)) :=
  Op1.of_run (by simp) fun a w hx' hr hK hG => by
    obtain ⟨i, hi, hsz⟩ := Option.map_eq_some_iff.1 hs
    have hG1 : G w H1 _ hr := ⟨(hG.sat.pick p).choose_spec.choose_spec.2.2, fun q o e => hG.own q o ((hG.sat.pick p).choose_spec.choose_spec.1.right e), hG.red, fun q => (hG.dj q).imp (fun h => ((hG.sat.pick p).choose_spec.choose_spec.1.isNone.1 h).2) id⟩
    obtain ⟨q, cap, rfl, hle, _, hn, hsp, hc⟩ := r.spec hG1
    generalize hN : Min.min ys.length xs.length = N
    have hN1 : N ≤ ys.length := by omega
    have hN2 : N ≤ xs.length := by omega
    have hcl : (E.cells (ys.take N)).length = N * E.s := by rw [E.length_cells, List.length_take, Nat.min_eq_left hN1]
    have hload : (Builtin.firstCells E.s N (.slice q ys.length cap)).run c.P w = .ok (E.cells (ys.take N)).toArray w := by
      cases q with
      | none =>
        have := hn rfl
        have : N = 0 := by omega
        subst this
        rfl
      | some ad =>
        have hspot := hsp ad rfl
        obtain ⟨b, o, sp⟩ := ad
        simp only at hspot
        subst hspot
        have hl := run_loadCells_list (P := c.P) (w := w) ⟨b, o, none⟩ (E.cells (ys.take N)) (fun j u hu => by
          rw [← E.cells_take, List.getElem?_take] at hu
          split at hu
          · obtain ⟨b', o', e1, e2⟩ := hc j u hu
            simp only [Option.some.injEq, Addr.mk.injEq, and_true] at e1
            obtain ⟨rfl, rfl⟩ := e1
            rw [Addr.add_lit]
            exact e2
          · cases hu)
        rw [hcl] at hl
        exact hl
    have hlen : (ys.take N).length = N := by rw [List.length_take, Nat.min_eq_left hN1]
    obtain ⟨w', hx2, hst, g', st⟩ := G.ownStore (P := c.P) p hG (j := 0) (us := E.cells (ys.take N)) (xs' := ys.take N ++ xs.drop N) (by simp; omega) (by rw [hcl, Nat.zero_add]; exact Nat.mul_le_mul_right _ hN2)
      (fun u hu => E.cells_one hu) (by
        have := splice_cells (E := E) (xs := xs) (ys := ys.take N) (i := 0) (by omega)
        simpa [hlen] using this)
    obtain ⟨p0, cap0, hv⟩ : ∃ p0 cap0, v = .slice p0 xs.length cap0 := by
      obtain ⟨g1, g2, jn, s1, s2⟩ := hG.sat.pick p
      rcases s1 with ⟨rfl, rfl, _⟩ | ⟨gg, cap, cur, rfl, _⟩
      · exact ⟨none, 0, rfl⟩
      · exact ⟨_, _, rfl⟩
    refine ⟨_, w', _, hx2, hr, ⟨rfl, rfl⟩, g', st, .inl ?_⟩
    have hmin : Nat.min ys.length xs.length = N := hN
    subst hv
    cases p0 with
    | none =>
      obtain ⟨g1, g2, jn, s1, s2⟩ := hG.sat.pick p
      rcases s1 with ⟨_, rfl, _⟩ | ⟨gg, cap, cur, h, _⟩
      · have : N = 0 := by simp at hN2; exact hN2
        subst this
        have : w' = w := by simpa [storeCells, Enc.cells] using hst.symm
        subst this
        simp [execOp, resolve, invoke, builtin, hK.eval hx, hK.eval hy, Builtin.copy_, run_underlying ht, Builtin.lenOf, run_sizeOf hi, hsz, hmin, hload, goInt]
      · simp at h
    | some ad =>
      have had : elA (.slice (some ad) xs.length cap0) 0 = ad := by
        obtain ⟨g1, g2, jn, s1, s2⟩ := hG.sat.pick p
        rcases s1 with ⟨h, _, _⟩ | ⟨gg, cap, cur, h, _⟩
        · simp at h
        · simp only [Value.slice.injEq, Option.some.injEq] at h
          rw [h.1]; rfl
      rw [had] at hst
      simp [execOp, resolve, invoke, builtin, hK.eval hx, hK.eval hy, Builtin.copy_, run_underlying ht, Builtin.lenOf, run_sizeOf hi, hsz, hmin, hload, hst, goInt]

/-- n zero values, one behind the other. -/
theorem cells_replicate {a0 : α} {zc : Array Value} (hz : zc.toList = E.f a0) (n : Nat) : (Array.range (n * E.s)).toList.map (fun i => zc[i % zc.size]!) = E.cells (List.replicate n a0) := by
  have hsz : zc.size = E.s := by rw [← E.len a0, ← hz]; simp
  apply List.ext_getElem?
  intro j
  by_cases hj : j < n * E.s
  · have hs : 0 < E.s := by
      rcases Nat.eq_zero_or_pos E.s with h | h
      · rw [h] at hj; simp at hj
      · exact h
    have hd : j / E.s < n := by rw [Nat.div_lt_iff_lt_mul hs]; exact hj
    have hm : j % E.s < E.s := Nat.mod_lt _ hs
    have := E.cells_get (xs := List.replicate n a0) (i := j / E.s) (j := j % E.s) (x := a0) (by simp [hd]) hm
    rw [Nat.div_add_mod' j E.s] at this
    rw [this, ← hz]
    simp [hj, hsz, hm]
  · rw [List.getElem?_eq_none (by simp; omega), List.getElem?_eq_none (by rw [E.length_cells]; simp; omega)]
theorem Op1.mkO {a0 : α} {e : TypeId} {ie : TypeInfo} {zv : Value} {n : Int} {kl kc : IntKind} (ht : c.P.underlying t = some (.slice e)) (hi : c.P.info? e = some ie) (hz : ie.zero = some zv) (hs : ie.size = E.s) (hzc : CellsR zv (E.f a0))
    (hx : evK K x = some (.int kl n)) (hy : evK K y = some (.int kc n)) (h0 : 0 ≤ n) (hb : (ie.bytes : Int) * n ≤ 281474976710656) (hm : n ≤ 9223372036854775807) :
    Op1 c ⟨d, .makeSlice t x y, ty, pos, af, gd⟩ K H (fun v H' => H' = own E v e (List.replicate n.toNat a0) :: H) :=
  Op1.of_run (by simp) fun a w hx' hr hK hG => by
    have hr' := run_make (P := c.P) w t e ie zv ht hi hz kl kc n n h0 (Int.le_refl _) hb hm
    obtain ⟨hx2, g, st⟩ := hG.new (w' := w.alloc (.cells (madeCells zv.cells (n.toNat * ie.size)) e)) (o := .cells (madeCells zv.cells (n.toNat * ie.size)) e) rfl rfl rfl rfl
    refine ⟨.slice (some ⟨w.heap.size, 0, none⟩) n.toNat n.toNat, _, _, hx2, hr, rfl, ?_, st, .inl (by simp [execOp, hK.eval hx, hK.eval hy, hr'])⟩
    obtain ⟨h5, h6, j, e5, s⟩ := g.sat
    refine ⟨⟨h5, h6, j, .inr ⟨w.heap.size, n.toNat, _, by simp, e5, by simp, by unfold maxLen; omega, by rw [size_madeCells, hs], ?_⟩, s⟩, g.own, g.red, g.dj⟩
    have := cells_replicate (E := E) (a0 := a0) (zc := zv.cells) (by rw [hzc.eq]) n.toNat
    rw [← this, hs]
    simp only [madeCells, Array.toList_map, List.length_replicate]
    exact List.take_of_length_le (by simp)
theorem Op1.clearO {a0 : α} {e e' : TypeId} {ie : TypeInfo} {zv : Value} {s i j : Nat} {H1 : List Atom} (ht : c.P.underlying t = some (.slice e)) (hi : c.P.info? e = some ie) (hz : ie.zero = some zv) (hzc : CellsR zv (E.f a0)) (hE : E.s = s)
    (hx : evK K x = some (subV v s i j)) (p : Pick (own E v e' xs) H H1) (h1 : i ≤ j) (h2 : j ≤ xs.length) :
    Op1 c ⟨d, .call ⟨.builtin .clear, #[x], #[t]⟩, ty, pos, af, gd⟩ K H (ret (.tuple #[]) (own E v e' (xs.take i ++ List.replicate (j - i) a0 ++ xs.drop j) :: H1)) :=
  Op1.of_run (by simp) fun a w hx' hr hK hG => by
    subst hE
    have hlen : (List.replicate (j - i) a0).length = j - i := by simp
    have hcl : (E.cells (List.replicate (j - i) a0)).length = (j - i) * E.s := by rw [E.length_cells, hlen]
    obtain ⟨w', hx2, hst, g', st⟩ := G.ownStore (P := c.P) p hG (j := i * E.s) (us := E.cells (List.replicate (j - i) a0)) (xs' := xs.take i ++ List.replicate (j - i) a0 ++ xs.drop j) (by simp; omega)
      (by rw [hcl, ← Nat.add_mul]; exact Nat.mul_le_mul_right _ (by omega)) (fun u hu => E.cells_one hu) (by
        have := splice_cells (E := E) (xs := xs) (ys := List.replicate (j - i) a0) (i := i) (by omega)
        rw [hlen, show i + (j - i) = j from by omega] at this
        exact this)
    refine ⟨_, w', _, hx2, hr, ⟨rfl, rfl⟩, g', st, .inl ?_⟩
    obtain ⟨g1, g2, jn, s1, s2⟩ := hG.sat.pick p
    have hzs : zv.cells.size = E.s := by rw [hzc.eq]; simpa using E.len a0
    have hzero : (Builtin.zeroCells zv.cells (j - i)).toList = E.cells (List.replicate (j - i) a0) := by
      rw [← cells_replicate (E := E) (a0 := a0) (zc := zv.cells) (by rw [hzc.eq]) (j - i)]
      simp [Builtin.zeroCells, hzs]
    rcases s1 with ⟨rfl, rfl, _⟩ | ⟨gg, cap, cur, rfl, _, h8, _⟩
    · simp at h2; subst h2; simp at h1; subst h1
      have : w' = w := by simpa [storeCells, Enc.cells] using hst.symm
      subst this
      simp [execOp, resolve, invoke, builtin, hK.eval hx, Builtin.clear_, run_underlying ht, subV, cut]
    · by_cases hij : i = j
      · subst hij
        have : w' = w := by simpa [storeCells, Enc.cells] using hst.symm
        subst this
        by_cases hc : cap = i
        · simp [execOp, resolve, invoke, builtin, hK.eval hx, Builtin.clear_, run_underlying ht, subV, cut, hc]
        · simp [execOp, resolve, invoke, builtin, hK.eval hx, Builtin.clear_, run_underlying ht, subV, cut, hc]
      · have hc : ¬ cap = i := by omega
        have hji : j - i ≠ 0 := by omega
        have hst' : (storeCells ⟨gg, i * E.s, none⟩ (E.cells (List.replicate (j - i) a0)) 0).run c.P w = .ok () w' := by simpa [elA, elB, elO] using hst
        obtain ⟨m, hm⟩ : ∃ m, j - i = m + 1 := ⟨j - i - 1, by omega⟩
        rw [hm] at hst' hzero
        simp [execOp, resolve, invoke, builtin, hK.eval hx, Builtin.clear_, run_underlying ht, subV, cut, hc, hm, Addr.add_lit, run_zeroValue hi hz, hzero, hst']
/-! ### A slice takes one cell -/
theorem own_one {e : TypeId} {hx hr : Hp} (s : (SL.own E v e xs).sat hx hr) : v.oneCell' = true := by
  rcases s with ⟨rfl, _⟩ | ⟨_, _, _, rfl, _⟩ <;> rfl
theorem rsl_one {hx hr : Hp} (s : (rsl E v xs).sat hx hr) : v.oneCell' = true := by
  rcases s.2 with ⟨rfl, _⟩ | ⟨_, _, _, _, _, _, rfl, _⟩ <;> rfl
theorem T.oneO {td : List Item} {e : TypeId} {H1 : List Atom} (p : Pick (SL.own E v e xs) H H1) (h : v.oneCell' = true → T c td K H) : T c td K H :=
  fun b a cs w hx hr h0 h1 h2 h3 h4 h5 h6 h7 => h (own_one (h7.sat.pick p).choose_spec.choose_spec.2.1) b a cs w hx hr h0 h1 h2 h3 h4 h5 h6 h7
theorem T.oneR {td : List Item} {H1 : List Atom} (p : Pick (rsl E v xs) H H1) (h : v.oneCell' = true → T c td K H) : T c td K H :=
  fun b a cs w hx hr h0 h1 h2 h3 h4 h5 h6 h7 => h (rsl_one (h7.sat.pick p).choose_spec.choose_spec.2.1) b a cs w hx hr h0 h1 h2 h3 h4 h5 h6 h7
theorem TR.oneO {ops l : List Oper} {e : TypeId} {H1 : List Atom} (p : Pick (SL.own E v e xs) H H1) (h : v.oneCell' = true → TR c ops l k K H) : TR c ops l k K H :=
  fun n hn => T.oneO p fun hv => h hv n hn
theorem TR.oneR {ops l : List Oper} {H1 : List Atom} (p : Pick (rsl E v xs) H H1) (h : v.oneCell' = true → TR c ops l k K H) : TR c ops l k K H :=
  fun n hn => T.oneR p fun hv => h hv n hn
end Go.SL
