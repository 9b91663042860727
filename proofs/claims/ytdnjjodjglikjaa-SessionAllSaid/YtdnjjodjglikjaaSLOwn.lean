/- Slices: of one's own, and read only; their elements by an encoding; length, reading, writing, append, make, copy, literals. No program is named here; the conditions stand in each law. -/
import Derived.Test.YtdnjjodjglikjaaSLOps2
import Derived.Laws.OwnMore
import Derived.Great.BuildSlice
namespace Go.SL
open Go

/-- How an element lies in memory: just s cells. -/
structure Enc (α : Type) where
  f : α → List Value
  s : Nat
  len : ∀ x, (f x).length = s
  one : ∀ x, ∀ u ∈ f x, u.oneCell' = true

def encI : Enc Int := ⟨fun n => [.int .i64 n], 1, fun _ => rfl, fun _ u h => by simp at h; subst h; rfl⟩
def encS : Enc ByteArray := ⟨fun s => [.string s], 1, fun _ => rfl, fun _ u h => by simp at h; subst h; rfl⟩
def encB : Enc Bool := ⟨fun b => [.bool b], 1, fun _ => rfl, fun _ u h => by simp at h; subst h; rfl⟩
def encU8 : Enc UInt8 := ⟨fun b => [.int .u8 (b.toNat : Int)], 1, fun _ => rfl, fun _ u h => by simp at h; subst h; rfl⟩

section enc
variable {α : Type} (E : Enc α)
def Enc.cells (xs : List α) : List Value := xs.flatMap E.f
theorem Enc.length_cells (xs : List α) : (E.cells xs).length = xs.length * E.s := by
  induction xs with
  | nil => simp [Enc.cells]
  | cons x xs ih => simp only [Enc.cells, List.flatMap_cons, List.length_append, E.len, List.length_cons] at ih ⊢; rw [ih, Nat.succ_mul]; omega
theorem Enc.cells_append (xs ys : List α) : E.cells (xs ++ ys) = E.cells xs ++ E.cells ys := by simp [Enc.cells]
theorem Enc.cells_one {xs : List α} {u : Value} (h : u ∈ E.cells xs) : u.oneCell' = true := by
  obtain ⟨x, _, hx⟩ := List.mem_flatMap.1 h
  exact E.one x u hx
theorem Enc.cells_get {xs : List α} {i j : Nat} {x : α} (h : xs[i]? = some x) (hj : j < E.s) : (E.cells xs)[i * E.s + j]? = (E.f x)[j]? := by
  induction xs generalizing i with
  | nil => simp at h
  | cons y ys ih =>
    simp only [Enc.cells, List.flatMap_cons]
    cases i with
    | zero =>
      simp at h; subst h
      rw [List.getElem?_append_left (by rw [E.len]; omega)]
      simp
    | succ i =>
      rw [List.getElem?_append_right (by rw [E.len, Nat.succ_mul]; omega), E.len]
      have : (i + 1) * E.s + j - E.s = i * E.s + j := by rw [Nat.succ_mul]; omega
      rw [this]
      exact ih (by simpa using h)
theorem Enc.cells_take (xs : List α) (n : Nat) : (E.cells xs).take (n * E.s) = E.cells (xs.take n) := by
  induction xs generalizing n with
  | nil => simp [Enc.cells]
  | cons x xs ih =>
    cases n with
    | zero => simp [Enc.cells]
    | succ n =>
      have := ih n
      simp only [Enc.cells, List.flatMap_cons, List.take_succ_cons] at this ⊢
      rw [Nat.succ_mul, List.take_append, E.len, List.take_of_length_le (by rw [E.len]; omega), show n * E.s + E.s - E.s = n * E.s from by omega, this]
theorem Enc.cells_drop (xs : List α) (n : Nat) : (E.cells xs).drop (n * E.s) = E.cells (xs.drop n) := by
  induction xs generalizing n with
  | nil => simp [Enc.cells]
  | cons x xs ih =>
    cases n with
    | zero => simp [Enc.cells]
    | succ n =>
      have := ih n
      simp only [Enc.cells, List.flatMap_cons, List.drop_succ_cons] at this ⊢
      rw [Nat.succ_mul, List.drop_append, E.len, List.drop_of_length_le (by rw [E.len]; omega), show n * E.s + E.s - E.s = n * E.s from by omega, this]
      simp
theorem Enc.cells_set {xs : List α} {i : Nat} (x : α) (h : i < xs.length) : E.cells (xs.set i x) = (E.cells xs).take (i * E.s) ++ E.f x ++ (E.cells xs).drop (i * E.s + E.s) := by
  rw [List.set_eq_take_append_cons_drop, if_pos h, Enc.cells_append, Enc.cells_take, ← Nat.succ_mul, Enc.cells_drop]
  simp [Enc.cells]
end enc

/-- v is nil, or stands at the head of an array of one's own; its elements are xs. -/
def own {α : Type} (E : Enc α) (v : Value) (e : TypeId) (xs : List α) : Atom :=
  ⟨fun hx _ => (v = .slice none 0 0 ∧ xs = [] ∧ ∀ k, hx k = none) ∨
    ∃ g cap cur, v = .slice (some ⟨g, 0, none⟩) xs.length cap ∧ hx = SL.one g (.cells cur e (0, 0)) ∧ xs.length ≤ cap ∧ cap ≤ maxLen ∧ cur.size = cap * E.s ∧ cur.toList.take (xs.length * E.s) = E.cells xs, fun _ _ _ _ h => h⟩
/-- v's elements are xs; nobody writes its array any more. -/
def rsl {α : Type} (E : Enc α) (v : Value) (xs : List α) : Atom :=
  ⟨fun hx hr => (∀ k, hx k = none) ∧ ((v = .slice none 0 0 ∧ xs = []) ∨
    ∃ b o cap cur e fz, v = .slice (some ⟨b, o, none⟩) xs.length cap ∧ xs.length ≤ cap ∧ cap ≤ maxLen ∧ hr b = some (.cells cur e fz) ∧ (cur.toList.drop o).take (xs.length * E.s) = E.cells xs),
   fun _ _ _ hle h => ⟨h.1, h.2.imp id fun ⟨b, o, cap, cur, e, fz, h1, h2, h3, h4, h5⟩ => ⟨b, o, cap, cur, e, fz, h1, h2, h3, hle _ _ h4, h5⟩⟩⟩
theorem rsl_ro {α : Type} (E : Enc α) (v : Value) (xs : List α) : (rsl E v xs).ro := fun _ _ h => h.1

section slices
variable {c : Cx} {K : List (Nat × Value)} {H : List Atom} {d : Option Tmp} {ty : TypeId} {pos : String} {af : Array Edge} {gd : Option (Nat × Bool)} {t t' yt : TypeId} {x y z : Operand}
variable {α : Type} {E : Enc α} {v : Value} {xs : List α}

/-- What v[i:j] is. -/
def subV (v : Value) (s i j : Nat) : Value := match v with
  | .slice p _ m => cut p i j m s
  | v => v
inductive Rds (H : List Atom) (E : Enc α) : Value → List α → Prop
  | own {v : Value} {xs : List α} {e : TypeId} {H' : List Atom} : Pick (SL.own E v e xs) H H' → Rds H E v xs
  | ro {v : Value} {xs : List α} {H' : List Atom} : Pick (rsl E v xs) H H' → Rds H E v xs
  | cut {v : Value} {xs ys : List α} {s l h : Nat} : Rds H E v xs → E.s = s → l ≤ h → h ≤ xs.length → ys = (xs.take h).drop l → Rds H E (subV v s l h) ys
theorem Rds.there {A : Atom} (p : Rds H E v xs) : Rds (A :: H) E v xs := by
  induction p with
  | own p => exact .own (.there p)
  | ro p => exact .ro (.there p)
  | cut _ h1 h2 h3 h4 ih => exact .cut ih h1 h2 h3 h4

theorem Rds.spec (r : Rds H E v xs) {w : World} {hx hr : Hp} (g : G w H hx hr) :
    ∃ p cap, v = .slice p xs.length cap ∧ xs.length ≤ cap ∧ cap ≤ maxLen ∧ (p = none → cap = 0) ∧ (∀ a, p = some a → a.spot = none) ∧ ∀ j u, (E.cells xs)[j]? = some u → ∃ b o, p = some ⟨b, o, none⟩ ∧ w.cell? ⟨b, o + j, none⟩ = some u := by
  have key : ∀ (xs : List α) (b o : Nat) (cur : Array Value) (e : TypeId) (fz : Nat × Nat), w.heap[b]? = some (.cells cur e fz) → (cur.toList.drop o).take (xs.length * E.s) = E.cells xs →
      ∀ j u, (E.cells xs)[j]? = some u → w.cell? ⟨b, o + j, none⟩ = some u := by
    intro xs b o cur e fz hw hc j u hu
    rw [← hc, List.getElem?_take] at hu
    split at hu
    · simp only [World.cell?, hw]
      simpa using hu
    · cases hu
  induction r with
  | own p =>
    obtain ⟨h1, h2, j, a, _⟩ := g.sat.pick p
    rcases a with ⟨rfl, rfl, _⟩ | ⟨gg, cap, cur, rfl, rfl, h3, h4, h5, h6⟩
    · exact ⟨none, 0, rfl, by simp, by simp, fun _ => rfl, fun _ h => (nomatch h), fun j u h => by simp [Enc.cells] at h⟩
    · have hw := g.own _ _ (j.left (k := gg) (by simp [SL.one]; rfl))
      exact ⟨some ⟨gg, 0, none⟩, cap, rfl, h3, h4, fun h => (nomatch h), fun a h => by simp at h; subst h; rfl, fun j u hu => ⟨gg, 0, rfl, key _ gg 0 cur _ _ hw (by simpa using h6) j u hu⟩⟩
  | ro p =>
    obtain ⟨h1, h2, j, ⟨_, a⟩, _⟩ := g.sat.pick p
    rcases a with ⟨rfl, rfl⟩ | ⟨b, o, cap, cur, e, fz, rfl, h3, h4, h5, h6⟩
    · exact ⟨none, 0, rfl, by simp, by simp, fun _ => rfl, fun _ h => (nomatch h), fun j u h => by simp [Enc.cells] at h⟩
    · exact ⟨some ⟨b, o, none⟩, cap, rfl, h3, h4, fun h => (nomatch h), fun a h => by simp at h; subst h; rfl, fun j u hu => ⟨b, o, rfl, key _ b o cur e fz (g.red _ _ h5) h6 j u hu⟩⟩

  | @cut v xs ys s l hh r hs h1 h2 h3 ih =>
    obtain ⟨p, cap, rfl, hle, hcm, hn, hsp, hc⟩ := ih
    have hlen : ys.length = hh - l := by rw [h3]; simp; omega
    subst hs
    refine ⟨if cap = l then p else p.map (·.add (l * E.s)), cap - l, by rw [hlen]; rfl, by omega, by omega, fun h => ?_, fun a h => ?_, fun j u hu => ?_⟩
    · split at h
      · omega
      · cases p with
        | none => have := hn rfl; omega
        | some a => cases h
    · split at h
      · exact hsp a h
      · cases p with
        | none => cases h
        | some a' =>
          have := hsp a' rfl
          obtain ⟨b, o, sp⟩ := a'
          simp only at this
          subst this
          simp only [Option.map_some, Option.some.injEq, Addr.add_lit] at h
          rw [← h]
    · have hlt : j < (E.cells ys).length := (List.getElem?_eq_some_iff.1 hu).1
      rw [E.length_cells, hlen] at hlt
      have hne : cap ≠ l := fun e => by
        have : hh - l = 0 := by omega
        rw [this] at hlt; simp at hlt
      have hu' : (E.cells xs)[l * E.s + j]? = some u := by
        rw [h3, ← E.cells_drop, ← E.cells_take, List.getElem?_drop, List.getElem?_take] at hu
        split at hu
        · exact hu
        · cases hu
      obtain ⟨b, o, e, hw⟩ := hc _ u hu'
      subst e
      refine ⟨b, o + l * E.s, ?_, ?_⟩
      · rw [if_neg hne]; simp [Addr.add_lit]
      · rw [Nat.add_assoc]; exact hw

/-- The address of the j-th cell of a slice. -/
def elB (v : Value) : Nat := match v with
  | .slice (some a) _ _ => a.block
  | _ => 0
def elO (v : Value) : Nat := match v with
  | .slice (some a) _ _ => a.off
  | _ => 0
def elA (v : Value) (j : Nat) : Addr := ⟨elB v, elO v + j, none⟩

theorem Op1.lenO {e : TypeId} (ht : c.P.underlying t = some (.slice e)) (hx : evK K x = some v) (r : Rds H E v xs) : Op1 c ⟨d, .call ⟨.builtin .len, #[x], #[t]⟩, ty, pos, af, gd⟩ K H (ret (.int .i64 xs.length) H) :=
  Op1.of_val (by simp) _ fun a w _ _ hK hG => by
    obtain ⟨p, cap, rfl, _⟩ := r.spec hG
    simp [execOp, resolve, invoke, builtin, Builtin.len_, hK.eval hx, run_underlying ht, goInt]
/-- The address of cell k of the i-th element, of s cells each. -/
def elI (v : Value) (s i k : Nat) : Addr := elA v (i * s + k)
theorem Op1.idxO {k : IntKind} {i : Int} {e : TypeId} (ht : c.P.underlying t = some (.slice e)) (hx : evK K x = some v) (r : Rds H E v xs) (hs : (c.P.info? e).map (·.size) = some E.s)
    (hy : evK K y = some (.int k i)) (h0 : 0 ≤ i) (h1 : i < xs.length) : Op1 c ⟨d, .indexAddr t x y, ty, pos, af, gd⟩ K H (ret (.pointer (some (elI v E.s i.toNat 0))) H) :=
  Op1.of_val (by simp) _ fun a w _ _ hK hG => by
    obtain ⟨q, hq, hs⟩ := Option.map_eq_some_iff.1 hs
    obtain ⟨p, cap, rfl, hle, _, hn, hsp, hc⟩ := r.spec hG
    cases p with
    | none => have := hn rfl; omega
    | some a =>
      have := hsp a rfl
      obtain ⟨b, o, sp⟩ := a
      simp only at this
      subst this
      simp [execOp, Instr.indexAt, asIntOf, hK.eval hx, hK.eval hy, run_underlying ht, h0, h1, run_sizeOf hq, hs, Addr.add_lit, elA, elB, elO, elI]
theorem Op1.faO {n f s i k : Nat} (h : fieldOff c.P t f = some n) (hx : evK K x = some (.pointer (some (elI v s i k)))) : Op1 c ⟨d, .fieldAddr t x f, ty, pos, af, gd⟩ K H (ret (.pointer (some (elI v s i (k + n)))) H) := by
  have := Op1.fieldAddr (c := c) (H := H) (d := d) (ty := ty) (pos := pos) (af := af) (gd := gd) (b := elB v) (off := elO v + (i * s + k)) h hx
  simpa [elI, elA, Nat.add_assoc] using this
theorem Rds.cell (r : Rds H E v xs) {w : World} {hx hr : Hp} (g : G w H hx hr) {j : Nat} {u : Value} (h : (E.cells xs)[j]? = some u) : w.cell? (elA v j) = some u := by
  obtain ⟨p, cap, rfl, _, _, _, _, hc⟩ := r.spec g
  obtain ⟨b, o, rfl, hw⟩ := hc j u h
  exact hw
theorem Op1.ldO {s i k : Nat} {a : α} {u : Value} (hs : scalar c.P t = true) (hx : evK K x = some (.pointer (some (elI v s i k)))) (r : Rds H E v xs) (hE : E.s = s) (ha : xs[i]? = some a) (hu : (E.f a)[k]? = some u) :
    Op1 c ⟨d, .load t x, ty, pos, af, gd⟩ K H (ret u H) :=
  Op1.of_val (by simp) _ fun ac w _ _ hK hG => by
    subst hE
    have hk : k < E.s := by
      have := (List.getElem?_eq_some_iff.1 hu).1
      rwa [E.len] at this
    have hc := r.cell hG (j := i * E.s + k) (u := u) (by rw [E.cells_get ha hk, hu])
    have hx' : evK K x = some (.pointer (some (elA v (i * E.s + k)))) := hx
    simp [execOp, Instr.loadAt, Instr.sureAddr, hK.eval hx', loadVar, run_scalar hs, hc]
theorem Op1.ldsO {s i k n : Nat} {a : α} {vs : List Value} (hs : cellsIf c.P t = some n) (hx : evK K x = some (.pointer (some (elI v s i k)))) (r : Rds H E v xs) (hE : E.s = s) (ha : xs[i]? = some a) (hu : SubL (E.f a) k n vs) :
    Op1 c ⟨d, .load t x, ty, pos, af, gd⟩ K H (ret (.agg ⟨vs⟩) H) :=
  Op1.of_val (by simp) _ fun ac w _ _ hK hG => by
    subst hE
    obtain ⟨h1, h2⟩ := run_cellsIf hs w
    obtain ⟨e1, e2⟩ := hu.eq
    have hl : (loadCells (elA v (i * E.s + k)) n).run c.P w = .ok vs.toArray w := by
      rw [← e2]
      refine run_loadCells_list (P := c.P) (w := w) (elA v (i * E.s + k)) vs fun q u hq => ?_
      have hqn : q < n := by have := (List.getElem?_eq_some_iff.1 hq).1; omega
      have hf : (E.f a)[k + q]? = some u := by
        rw [← e1, List.getElem?_take, if_pos hqn] at hq
        simpa using hq
      have hk : k + q < E.s := by
        have := (List.getElem?_eq_some_iff.1 hf).1
        rwa [E.len] at this
      have hc := r.cell hG (j := i * E.s + k + q) (u := u) (by rw [Nat.add_assoc, E.cells_get ha hk, hf])
      unfold elA at hc ⊢
      rw [Addr.add_lit, Nat.add_assoc]
      exact hc
    have hx' : evK K x = some (.pointer (some (elA v (i * E.s + k)))) := hx
    simp [execOp, Instr.loadAt, Instr.sureAddr, hK.eval hx', loadVar, h1, h2, hl]

/-! ### What is appended, copied -/
inductive Src (H : List Atom) (E : Enc α) : Value → List α → Prop
  | nil : Src H E (.slice none 0 0) []
  | blk {b cap : Nat} {l : List Value} {e : TypeId} {fz : Nat × Nat} {xs : List α} : Has b (.cells ⟨l⟩ e fz) H → l = E.cells xs → Src H E (.slice (some ⟨b, 0, none⟩) xs.length cap) xs
  | rds {v : Value} {xs : List α} : Rds H E v xs → Src H E v xs
theorem Src.spec (r : Src H E v xs) {w : World} {hx hr : Hp} (g : G w H hx hr) :
    ∃ p cap, v = .slice p xs.length cap ∧ (p = none → cap = 0 ∧ xs = []) ∧ ∀ a, p = some a → ∀ j u, (E.cells xs)[j]? = some u → w.cell? (a.add j) = some u := by
  cases r with
  | nil => exact ⟨none, 0, rfl, fun _ => ⟨rfl, rfl⟩, fun _ h => (nomatch h)⟩
  | @blk b cap l e fz xs hb hl =>
    subst hl
    refine ⟨some ⟨b, 0, none⟩, cap, rfl, fun h => (nomatch h), fun a h j u hu => ?_⟩
    simp only [Option.some.injEq] at h
    subst h
    rw [Addr.add_lit]
    simp [World.cell?, g.has hb, hu]
  | rds r =>
    obtain ⟨p, cap, rfl, hle, _, hn, hsp, hc⟩ := r.spec g
    refine ⟨p, cap, rfl, fun h => ⟨hn h, ?_⟩, fun a h j u hu => ?_⟩
    · have := hn h
      exact List.eq_nil_of_length_eq_zero (by omega)
    · obtain ⟨b, o, h', hw⟩ := hc j u hu
      rw [h] at h'
      simp only [Option.some.injEq] at h'
      subst h'
      rw [Addr.add_lit]
      exact hw

/-- What is owned of one block comes to stand in a new one. -/
theorem G.move {w w' : World} {A B : Atom} {o : Obj} {H1 : List Atom} {hx hr : Hp} (p : Pick A H H1) (g : G w H hx hr)
    (hos : w'.os = w.os) (htape : w'.tape = w.tape) (hout : w'.output = w.output) (hheap : w'.heap = w.heap.push o) (hB : ∀ hr, B.sat (one w.heap.size o) hr) :
    ∃ hx', G w' (B :: H1) hx' hr ∧ Stp w hx hr w' hx' hr := by
  obtain ⟨h1, h2, j, _, s⟩ := g.sat.pick p
  have g2 : G w H1 h2 hr := ⟨s, fun k u e => g.own k u (j.right e), g.red, fun k => (g.dj k).imp (fun h => (j.isNone.1 h).2) id⟩
  obtain ⟨hx', g3, st⟩ := g2.new hos htape hout hheap
  have st0 : Stp w hx hr w h2 hr := ⟨rfl, rfl, rfl, Nat.le_refl _, fun _ _ _ => rfl, fun k h _ => (j.isNone.1 h).2, Hp.le_refl _, fun _ _ h _ => h⟩
  obtain ⟨h3, h4, j', hh, s'⟩ := g3.sat
  refine ⟨hx', ⟨⟨h3, h4, j', ?_, s'⟩, g3.own, g3.red, g3.dj⟩, st0.trans st⟩
  rw [show h3 = one w.heap.size o from hh]
  exact hB hr

theorem Op1.app {e : TypeId} {s : Operand} {ys : List α} {i : TypeInfo} {u : Value} {H1 : List Atom} {ty' : TypeId} {z₀ : Value} (ht : c.P.underlying t = some (.slice e)) (hi : c.P.info? e = some i) (hz : i.zero = some z₀) (hzs : z₀.cells.size = E.s)
    (hsz : i.size = E.s) (hs : evK K s = some v) (p : Pick (own E v e xs) H H1) (hx : evK K x = some u) (r : Src H E u ys) (hb : (xs.length + ys.length) * i.bytes ≤ 140737488355328) (hm : xs.length + ys.length ≤ maxLen) :
    Op1 c ⟨d, .call ⟨.builtin .append, #[s, x], #[t, t]⟩, ty', pos, af, gd⟩ K H (fun v' H' => H' = own E v' e (xs ++ ys) :: H1) := by
  refine Op1.of_run (by simp) fun a w hx' hr hK hG => ?_
  obtain ⟨q, cx, rfl, hqn, hcell⟩ := r.spec hG
  have hrun : ∀ (V : Value) (w' : World), (Builtin.append_ #[t, t] ty' #[v, .slice q ys.length cx]).run c.P w = .ok V w' →
      (execOp a.eval ⟨d, .call ⟨.builtin .append, #[s, x], #[t, t]⟩, ty', pos, af, gd⟩).run c.P w = .ok (.value V) w' := by
    intro V w' h
    simp [execOp, resolve, invoke, builtin, hK.eval hs, hK.eval hx, h]
  have hlenC : (E.cells ys).length = ys.length * i.size := by rw [hsz]; exact E.length_cells ys
  have hlenX : (E.cells xs).length = xs.length * i.size := by rw [hsz]; exact E.length_cells xs
  have hmm : ((xs.length + ys.length : Nat) : Int) ≤ 9223372036854775807 := by unfold maxLen at hm; omega
  obtain ⟨h1, h2, j, sa, s2⟩ := hG.sat.pick p
  -- what a new array makes
  have mk : ∀ (cap : Nat), xs.length + ys.length ≤ cap → cap ≤ maxLen → ∀ (W : World), W = w.drew.alloc (.cells ((E.cells xs).toArray ++ (E.cells ys).toArray ++ Builtin.zeroCells z₀.cells (cap - (xs.length + ys.length))) e) →
      ∃ hx2, G W (own E (.slice (some ⟨w.heap.size, 0, none⟩) (xs.length + ys.length) cap) e (xs ++ ys) :: H1) hx2 hr ∧ Stp w hx' hr W hx2 hr := by
    intro cap hcap hcm W hW
    refine G.move p hG (o := .cells ((E.cells xs).toArray ++ (E.cells ys).toArray ++ Builtin.zeroCells z₀.cells (cap - (xs.length + ys.length))) e) (by rw [hW]; rfl) (by rw [hW]; rfl) (by rw [hW]; rfl) (by rw [hW]; rfl) fun hr => ?_
    refine .inr ⟨w.heap.size, cap, _, by simp, rfl, by simpa using hcap, hcm, ?_, ?_⟩
    · simp only [Array.size_append, List.size_toArray, size_zeroCells, hzs, E.length_cells, ← Nat.add_mul]
      congr 1
      omega
    · simp only [Array.toList_append, E.cells_append, List.length_append, Nat.add_mul]
      rw [← E.length_cells xs, ← E.length_cells ys, ← List.length_append]
      exact List.take_left
  rcases sa with ⟨rfl, rfl, hemp⟩ | ⟨gg, cap, cur, rfl, rfl, hle, hcm, hcs, htk⟩
  · cases q with
    | none =>
      obtain ⟨rfl, rfl⟩ := hqn rfl
      refine ⟨.slice none 0 0, w, _, hx', hr, rfl, ⟨?_, hG.own, hG.red, hG.dj⟩, Stp.refl _ _ _, .inl (hrun _ _ ?_)⟩
      · exact ⟨h1, h2, j, .inl ⟨rfl, rfl, hemp⟩, s2⟩
      · simp [Builtin.append_, run_underlying ht, sizeOf, typeInfo, hi, Builtin.lenOf, Builtin.firstCells]
    | some a₀ =>
      by_cases hy0 : ys.length = 0
      · have : ys = [] := List.eq_nil_of_length_eq_zero hy0
        subst this
        refine ⟨.slice none 0 0, w, _, hx', hr, rfl, ⟨?_, hG.own, hG.red, hG.dj⟩, Stp.refl _ _ _, .inl (hrun _ _ ?_)⟩
        · exact ⟨h1, h2, j, .inl ⟨rfl, rfl, hemp⟩, s2⟩
        · simp [Builtin.append_, run_underlying ht, sizeOf, typeInfo, hi, Builtin.lenOf, Builtin.firstCells, loadCells, loadCellsFrom]
      · have hr' := run_append_nil (P := c.P) w t ty' e i z₀ ht hi hz a₀ ys.length cx (E.cells ys) hlenC (hcell a₀ rfl) (by omega) (by simp at hmm; omega) (by simp at hb; omega)
        obtain ⟨hx2, g2, st⟩ := mk (grownCap w ys.length 0 e) (by simpa using grownCap_ge w ys.length 0 e) (grownCap_le_maxLen w ys.length 0 e (by simpa using hm)) _ rfl
        refine ⟨_, _, _, hx2, hr, rfl, g2, st, .inl (hrun _ _ ?_)⟩
        rw [hr']
        simp [Enc.cells]
  · have hw : w.heap[gg]? = some (.cells cur e (0, 0)) := hG.own _ _ (j.left (by simp [SL.one]))
    have hold : ∀ j u, (E.cells xs)[j]? = some u → w.cell? ((⟨gg, 0, none⟩ : Addr).add j) = some u := by
      intro jj u hu
      rw [Addr.add_lit, Nat.zero_add]
      rw [← htk, List.getElem?_take] at hu
      split at hu
      · simp only [World.cell?, hw]; simpa using hu
      · cases hu
    by_cases hroom : xs.length + ys.length ≤ cap
    · have key : ∀ (W : World), W = w.setRow gg (cur.toList.take (xs.length * i.size) ++ E.cells ys ++ cur.toList.drop (xs.length * i.size + (E.cells ys).length)).toArray →
          ∃ hx2, G W (own E (.slice (some ⟨gg, 0, none⟩) (xs.length + ys.length) cap) e (xs ++ ys) :: H1) hx2 hr ∧ Stp w hx' hr W hx2 hr := by
        intro W hW
        have p' : Pick (pt gg (.cells cur e (0, 0))) (pt gg (.cells cur e (0, 0)) :: H1) H1 := .here
        have g0 : G w (pt gg (.cells cur e (0, 0)) :: H1) hx' hr := ⟨⟨_, h2, j, rfl, s2⟩, hG.own, hG.red, hG.dj⟩
        obtain ⟨hx2, g2, st⟩ := g0.put p' (w' := W) (o' := .cells (cur.toList.take (xs.length * i.size) ++ E.cells ys ++ cur.toList.drop (xs.length * i.size + (E.cells ys).length)).toArray e (0, 0))
          (by rw [hW]; rfl) (by rw [hW]; rfl) (by rw [hW]; rfl) (by rw [hW]; simp) (by rw [hW]; exact setRow_heap w gg cur _ e _ hw) (fun k hk => by rw [hW]; exact setRow_other w gg k _ hk)
        obtain ⟨h3, h4, j', hh, s'⟩ := g2.sat
        refine ⟨hx2, ⟨⟨h3, h4, j', ?_, s'⟩, g2.own, g2.red, g2.dj⟩, st⟩
        refine .inr ⟨gg, cap, _, by simp, hh, by simpa using hroom, hcm, ?_, ?_⟩
        · simp only [List.size_toArray, List.length_append, List.length_take, List.length_drop, Array.length_toList, E.length_cells, hsz, hcs]
          have : xs.length * E.s + ys.length * E.s ≤ cap * E.s := by rw [← Nat.add_mul]; exact Nat.mul_le_mul_right _ hroom
          omega
        · rw [hsz, htk]
          simp only [List.length_append, Nat.add_mul, E.cells_append]
          rw [← E.length_cells xs, ← E.length_cells ys, ← List.length_append]
          exact List.take_left
      cases q with
      | none =>
        obtain ⟨rfl, rfl⟩ := hqn rfl
        refine ⟨.slice (some ⟨gg, 0, none⟩) xs.length cap, w, _, hx', hr, rfl, ⟨?_, hG.own, hG.red, hG.dj⟩, Stp.refl _ _ _, .inl (hrun _ _ ?_)⟩
        · refine ⟨_, h2, j, .inr ⟨gg, cap, cur, by simp, rfl, by simpa using hle, hcm, hcs, by simpa using htk⟩, s2⟩
        · have : xs.length ≤ cap := hle
          simp [Builtin.append_, run_underlying ht, sizeOf, typeInfo, hi, Builtin.lenOf, Builtin.firstCells, this, storeCells]
      | some a₀ =>
        have hr' := run_append_room (P := c.P) w t ty' e i ht hi gg xs.length cap cur hw a₀ ys.length cx (E.cells ys) hlenC (hcell a₀ rfl) (fun u hu => E.cells_one hu) hroom
          (by rw [hlenC, hcs, hsz, ← Nat.add_mul]; exact Nat.mul_le_mul_right _ hroom)
        obtain ⟨hx2, g2, st⟩ := key _ rfl
        exact ⟨_, _, _, hx2, hr, rfl, g2, st, .inl (hrun _ _ hr')⟩
    · cases q with
      | none => obtain ⟨rfl, rfl⟩ := hqn rfl; simp at hroom; omega
      | some a₀ =>
        have hr' := run_append_grow (P := c.P) w t ty' e i z₀ ht hi hz ⟨gg, 0, none⟩ xs.length cap (E.cells xs) hlenX hold a₀ ys.length cx (E.cells ys) hlenC (hcell a₀ rfl) (by omega) hmm (growslice_fits (by omega) hb)
        obtain ⟨hx2, g2, st⟩ := mk (grownCap w (xs.length + ys.length) cap e) (grownCap_ge w _ cap e) (grownCap_le_maxLen w _ cap e hm) _ rfl
        exact ⟨_, _, _, hx2, hr, rfl, g2, st, .inl (hrun _ _ hr')⟩

end slices
end Go.SL
