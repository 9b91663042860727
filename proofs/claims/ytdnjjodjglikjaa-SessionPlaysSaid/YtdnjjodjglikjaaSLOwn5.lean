/- Slices, more: shifts, zeros appended to nothing, a slice made shorter. No program is named here; the conditions stand in each law. -/
import Derived.Test.YtdnjjodjglikjaaSLOwn4
namespace Go.SL
open Go

variable {c : Cx} {K : List (Nat × Value)} {H : List Atom} {d : Option Tmp} {ty : TypeId} {pos : String} {af : Array Edge} {gd : Option (Nat × Bool)} {t t' yt : TypeId} {x y z : Operand}
variable {α : Type} {E : Enc α} {v : Value} {xs : List α} {k : List Item}

theorem Op1.shr1 {kd kd' : IntKind} {m : Int} (hx : evK K x = some (.int kd m)) (hy : evK K y = some (.int kd' 1)) : Op1 c ⟨d, .binOp .shr t x y yt, ty, pos, af, gd⟩ K H (ret (.int kd (m / 2)) H) :=
  Op1.of_val (by simp) _ fun a w _ _ hK _ => by
    have hb : Min.min (1 : Int).toNat kd.bits = 1 := by cases kd <;> rfl
    have he : m.fdiv 2 = m / 2 := Int.fdiv_eq_ediv_of_nonneg _ (by omega)
    simp only [execOp, hK.eval hx, hK.eval hy, eqGuard_shr, binOp_shr, Op.shift, Sem.run_bind, Sem.run_pure, Result.andThen_ok]
    rw [if_neg (by omega), hb]
    simp [he]

theorem run_append_zeros {P : Program} (w : World) (t tx ty e : TypeId) (i : TypeInfo) (z : Value) {kd kd' : IntKind} (ht : P.underlying t = some (.slice e)) (hx : P.underlying tx = some (.int kd)) (hi : P.info? e = some i) (hz : i.zero = some z)
    (n : Nat) (h0 : 0 < n) (hs : 0 < i.size) (h63 : (n : Int) ≤ 9223372036854775807) (h48 : n * i.bytes ≤ 281474976710656) :
    (Builtin.append_ #[t, tx] ty #[.slice none 0 0, .int kd' n]).run P w =
      .ok (.slice (some ⟨w.heap.size, 0, none⟩) n (grownCap w n 0 e)) (w.drew.alloc (.cells (Builtin.zeroCells z.cells n ++ Builtin.zeroCells z.cells (grownCap w n 0 e - n)) e)) := by
  have hn : n ≠ 0 := by omega
  have h63' : ¬ (9223372036854775807 < (n : Int)) := by omega
  have h48' : ¬ (281474976710656 < Builtin.nextslicecap n 0 * i.bytes) := by rw [nextslicecap_zero h0]; omega
  have hw : IntKind.i64.wrap (n : Int) = n := wrap_i64 (by omega) h63
  have hb : ¬ (281474976710656 < (n : Int) * i.bytes) := by
    have : ((n * i.bytes : Nat) : Int) ≤ 281474976710656 := by omega
    rw [Int.natCast_mul] at this
    omega
  have hns : n * i.size ≠ 0 := Nat.mul_ne_zero hn (by omega)
  have hs0 : i.size ≠ 0 := by omega
  simp [Builtin.append_, run_underlying ht, run_underlying hx, sizeOf, typeInfo, zeroValue, hi, hz, asInt, asIntOf, hw, hb, hn, hs0, h63', h48', Question.forced, run_firstCells_none, newRow, grownCap]
  rw [if_neg (by omega), if_neg hns]
/-- 'append([]T(nil), make([]T, n)...)' -/
theorem Op1.appZ {a0 : α} {e tx : TypeId} {i : TypeInfo} {zv : Value} {kd kd' : IntKind} {n : Int} {ty' : TypeId} (ht : c.P.underlying t = some (.slice e)) (htx : c.P.underlying tx = some (.int kd)) (hi : c.P.info? e = some i) (hz : i.zero = some zv) (hs : i.size = E.s) (h1 : 0 < E.s)
    (hzc : CellsR zv (E.f a0)) (hx : evK K x = some (.slice none 0 0)) (hy : evK K y = some (.int kd' n)) (h0 : 0 < n) (hb : n * i.bytes ≤ 140737488355328) (hm : n ≤ 4611686018427387904) :
    Op1 c ⟨d, .call ⟨.builtin .append, #[x, y], #[t, tx]⟩, ty', pos, af, gd⟩ K H (fun v H' => H' = own E v e (List.replicate n.toNat a0) :: H) :=
  Op1.of_run (by simp) fun a w hx' hr hK hG => by
    obtain ⟨m, rfl⟩ : ∃ m : Nat, n = m := ⟨n.toNat, by omega⟩
    have hbn : m * i.bytes ≤ 140737488355328 := by
      have : ((m * i.bytes : Nat) : Int) ≤ 140737488355328 := by rw [Int.natCast_mul]; exact hb
      omega
    have hrun := run_append_zeros (P := c.P) w t tx ty' e i zv (kd' := kd') ht htx hi hz m (by omega) (by omega) (by omega) (by omega)
    have hge : m ≤ grownCap w m 0 e := by simpa using grownCap_ge w m 0 e
    have hle : grownCap w m 0 e ≤ Go.maxLen := grownCap_le_maxLen w m 0 e (by unfold Go.maxLen; omega)
    have hzs : zv.cells.size = E.s := by rw [hzc.eq]; simpa using E.len a0
    obtain ⟨hx2, g, st⟩ := hG.new (w' := w.drew.alloc (.cells (Builtin.zeroCells zv.cells m ++ Builtin.zeroCells zv.cells (grownCap w m 0 e - m)) e)) (o := .cells (Builtin.zeroCells zv.cells m ++ Builtin.zeroCells zv.cells (grownCap w m 0 e - m)) e) rfl rfl rfl rfl
    refine ⟨.slice (some ⟨w.heap.size, 0, none⟩) m (grownCap w m 0 e), _, _, hx2, hr, rfl, ?_, st, .inl ?_⟩
    · obtain ⟨h5, h6, j, e5, s⟩ := g.sat
      refine ⟨⟨h5, h6, j, .inr ⟨w.heap.size, grownCap w m 0 e, _, by simp, e5, by simpa using hge, hle, ?_, ?_⟩, s⟩, g.own, g.red, g.dj⟩
      · simp only [Array.size_append, size_zeroCells, hzs, ← Nat.add_mul]
        congr 1
        omega
      · have hc := cells_replicate (E := E) (a0 := a0) (zc := zv.cells) (by rw [hzc.eq]) m
        rw [Int.toNat_natCast, ← hc]
        have e1 : (Builtin.zeroCells zv.cells m).toList = (Array.range (m * E.s)).toList.map (fun i => zv.cells[i % zv.cells.size]!) := by simp [Builtin.zeroCells, hzs]
        rw [Array.toList_append, e1]
        have e2 : ((Array.range (m * E.s)).toList.map (fun i => zv.cells[i % zv.cells.size]!)).length = (List.replicate m a0).length * E.s := by simp
        rw [← e2]
        exact List.take_left
    · simp [execOp, resolve, invoke, builtin, hK.eval hx, hK.eval hy, hrun]

/-- A slice of one's own, made shorter. -/
theorem own_shorter {e : TypeId} {h : Nat} (hh : h ≤ xs.length) : ∀ hx hr, (SL.own E v e xs).sat hx hr → (SL.own E (subV v E.s 0 h) e (xs.take h)).sat hx hr := by
  rintro hx hr (⟨rfl, rfl, he⟩ | ⟨g, cap, cur, rfl, rfl, h1, h2, h3, h4⟩)
  · simp at hh; subst hh
    exact .inl ⟨by simp [subV, cut], by simp, he⟩
  · refine .inr ⟨g, cap, cur, ?_, rfl, by simp; omega, h2, h3, ?_⟩
    · have hl : (xs.take h).length = h := by simp; omega
      rw [hl]
      simp only [subV, cut, Nat.zero_mul, Nat.sub_zero]
      congr 1
      split
      · rfl
      · simp [Addr.add]
    · have hl : (xs.take h).length = h := by simp; omega
      have hm : h * E.s ≤ xs.length * E.s := Nat.mul_le_mul_right _ hh
      rw [hl, ← E.cells_take, ← h4, List.take_take, Nat.min_eq_left hm]
/-! ### A slice whose room is shut: 'a[:len(a):len(a)]' -/
def capV (v : Value) : Value := match v with
  | .slice p n _ => .slice p n n
  | v => v
theorem run_bounds3 {P : Program} {len cap : Nat} {kh km : IntKind} (h2 : len ≤ cap) (w : World) :
    (Instr.sliceBounds true len cap none (some (.int kh len)) (some (.int km len))).run P w = .ok (0, len, len) w := by
  have hb : ∀ (k : IntKind) (i y : Nat) (code : BoundsCode), i ≤ y → (Instr.sliceBound (.int k (i : Int)) y code).run P w = .ok i w := by
    intro k i y code hi
    simp [Instr.sliceBound, asIntOf, hi]
  simp [Instr.sliceBounds, hb, h2]
theorem Op1.capO {e : TypeId} {s : Nat} {hi mx : Operand} {kh km : IntKind} (ht : c.P.underlying t = some (.slice e)) (hs : (c.P.info? e).map (·.size) = some s) (hx : evK K x = some v) (r : Rds H E v xs)
    (hhi : evK K hi = some (.int kh xs.length)) (hmx : evK K mx = some (.int km xs.length)) :
    Op1 c ⟨d, .slice t x none (some hi) (some mx), ty, pos, af, gd⟩ K H (ret (capV v) H) :=
  Op1.of_val (by simp) _ fun a w _ _ hK hG => by
    obtain ⟨j, hj, rfl⟩ := Option.map_eq_some_iff.1 hs
    obtain ⟨p, cap, rfl, hle, _⟩ := r.spec hG
    have hb := run_bounds3 (P := c.P) (kh := kh) (km := km) hle w
    simp only [execOp, Instr.sliceAt, Sem.run_bind, run_underlying ht, Result.andThen_ok, Instr.slice, hK.eval hx, Option.map_some, Option.map_none, hK.eval hhi, hK.eval hmx, hb, run_sizeOf hj]
    simp only [capV, Nat.zero_mul, Nat.sub_zero]
    congr 3
    split
    · simp
    · cases p <;> simp [Addr.add]
theorem rsl_cap {hx hr : Hp} (s : (rsl E v xs).sat hx hr) : (rsl E (capV v) xs).sat hx hr := by
  refine ⟨s.1, ?_⟩
  rcases s.2 with ⟨rfl, rfl⟩ | ⟨b, o, cap, cur, e, fz, rfl, h3, h4, h5, h6⟩
  · exact .inl ⟨by simp [capV], rfl⟩
  · exact .inr ⟨b, o, xs.length, cur, e, fz, by simp [capV], Nat.le_refl _, by omega, h5, h6⟩
/-- 'append(a[:len(a):len(a)], b...)' -/
theorem Op1.appC {e : TypeId} {s : Operand} {ys : List α} {i : TypeInfo} {u : Value} {ty' : TypeId} {z₀ : Value} (ht : c.P.underlying t = some (.slice e)) (hi : c.P.info? e = some i) (hz : i.zero = some z₀) (hzs : z₀.cells.size = E.s)
    (hsz : i.size = E.s) (hs : evK K s = some (capV v)) (p : Rds H E v xs) (hx : evK K x = some u) (r : Src H E u ys) (hb : (xs.length + ys.length) * i.bytes ≤ 140737488355328) (hm : xs.length + ys.length ≤ maxLen) :
    Op1 c ⟨d, .call ⟨.builtin .append, #[s, x], #[t, t]⟩, ty', pos, af, gd⟩ K H (fun v' H' => (ys = [] ∧ v' = capV v ∧ H' = H) ∨ (ys ≠ [] ∧ H' = own E v' e (xs ++ ys) :: H)) := by
  refine Op1.of_run (by simp) fun a w hx' hr hK hG => ?_
  obtain ⟨q, cx, rfl, hqn, hcell⟩ := r.spec hG
  obtain ⟨q0, c0, rfl, hle0, hcm0, hn0, hsp0, hc0⟩ := p.spec hG
  have hv : capV (.slice q0 xs.length c0) = .slice q0 xs.length xs.length := by simp [capV]
  rw [hv] at hs
  have hrun : ∀ (V : Value) (w' : World), (Builtin.append_ #[t, t] ty' #[.slice q0 xs.length xs.length, .slice q ys.length cx]).run c.P w = .ok V w' →
      (execOp a.eval ⟨d, .call ⟨.builtin .append, #[s, x], #[t, t]⟩, ty', pos, af, gd⟩).run c.P w = .ok (.value V) w' := by
    intro V w' h
    simp [execOp, resolve, invoke, builtin, hK.eval hs, hK.eval hx, h]
  have hlenC : (E.cells ys).length = ys.length * i.size := by rw [hsz]; exact E.length_cells ys
  have hlenX : (E.cells xs).length = xs.length * i.size := by rw [hsz]; exact E.length_cells xs
  have hmm : ((xs.length + ys.length : Nat) : Int) ≤ 9223372036854775807 := by unfold maxLen at hm; omega
  have mk : ∀ (cap : Nat), xs.length + ys.length ≤ cap → cap ≤ maxLen → ∀ (W : World), W = w.drew.alloc (.cells ((E.cells xs).toArray ++ (E.cells ys).toArray ++ Builtin.zeroCells z₀.cells (cap - (xs.length + ys.length))) e) →
      ∃ hx2, G W (own E (.slice (some ⟨w.heap.size, 0, none⟩) (xs.length + ys.length) cap) e (xs ++ ys) :: H) hx2 hr ∧ Stp w hx' hr W hx2 hr := by
    intro cap hcap hcm W hW
    obtain ⟨hx2, g, st⟩ := hG.new (w' := W) (o := .cells ((E.cells xs).toArray ++ (E.cells ys).toArray ++ Builtin.zeroCells z₀.cells (cap - (xs.length + ys.length))) e) (by rw [hW]; rfl) (by rw [hW]; rfl) (by rw [hW]; rfl) (by rw [hW]; rfl)
    refine ⟨hx2, ?_, st⟩
    obtain ⟨h5, h6, j, e5, s'⟩ := g.sat
    refine ⟨⟨h5, h6, j, .inr ⟨w.heap.size, cap, _, by simp, e5, by simpa using hcap, hcm, ?_, ?_⟩, s'⟩, g.own, g.red, g.dj⟩
    · simp only [Array.size_append, List.size_toArray, size_zeroCells, hzs, E.length_cells, ← Nat.add_mul]
      congr 1
      omega
    · simp only [Array.toList_append, E.cells_append, List.length_append, Nat.add_mul]
      rw [← E.length_cells xs, ← E.length_cells ys, ← List.length_append]
      exact List.take_left
  by_cases hy0 : ys.length = 0
  · have : ys = [] := List.eq_nil_of_length_eq_zero hy0
    subst this
    refine ⟨.slice q0 xs.length xs.length, w, H, hx', hr, .inl ⟨rfl, hv.symm, rfl⟩, hG, Stp.refl _ _ _, .inl (hrun _ _ ?_)⟩
    cases q <;> cases q0 <;> simp [Builtin.append_, run_underlying ht, sizeOf, typeInfo, hi, Builtin.lenOf, Builtin.firstCells, loadCells, loadCellsFrom, storeCells]
  · have hne : ys ≠ [] := fun h => hy0 (by rw [h]; rfl)
    cases q with
    | none => exact absurd (hqn rfl).2 hne
    | some a₀ =>
      cases q0 with
      | none =>
        have hc00 := hn0 rfl
        have hx0 : xs = [] := List.eq_nil_of_length_eq_zero (by omega)
        subst hx0
        have hr' := run_append_nil (P := c.P) w t ty' e i z₀ ht hi hz a₀ ys.length cx (E.cells ys) hlenC (hcell a₀ rfl) (by omega) (by simp at hmm; omega) (by simp at hb; omega)
        obtain ⟨hx2, g2, st⟩ := mk (grownCap w ys.length 0 e) (by simpa using grownCap_ge w ys.length 0 e) (grownCap_le_maxLen w ys.length 0 e (by simpa using hm)) _ rfl
        refine ⟨_, _, _, hx2, hr, .inr ⟨hne, rfl⟩, g2, st, .inl (hrun _ _ ?_)⟩
        simp only [List.length_nil]
        rw [hr']
        simp [Enc.cells]
      | some b₀ =>
        have hsp := hsp0 b₀ rfl
        obtain ⟨bb, oo, sp⟩ := b₀
        simp only at hsp
        subst hsp
        have hold : ∀ j u, (E.cells xs)[j]? = some u → w.cell? ((⟨bb, oo, none⟩ : Addr).add j) = some u := by
          intro j u hu
          obtain ⟨b', o', e1, e2⟩ := hc0 j u hu
          simp only [Option.some.injEq, Addr.mk.injEq, and_true] at e1
          obtain ⟨rfl, rfl⟩ := e1
          rw [Addr.add_lit]
          exact e2
        have hr' := run_append_grow (P := c.P) w t ty' e i z₀ ht hi hz ⟨bb, oo, none⟩ xs.length xs.length (E.cells xs) hlenX hold a₀ ys.length cx (E.cells ys) hlenC (hcell a₀ rfl) (by omega) hmm (growslice_fits (by omega) hb)
        obtain ⟨hx2, g2, st⟩ := mk (grownCap w (xs.length + ys.length) xs.length e) (grownCap_ge w _ _ e) (grownCap_le_maxLen w _ _ e hm) _ rfl
        exact ⟨_, _, _, hx2, hr, .inr ⟨hne, rfl⟩, g2, st, .inl (hrun _ _ hr')⟩
end Go.SL
