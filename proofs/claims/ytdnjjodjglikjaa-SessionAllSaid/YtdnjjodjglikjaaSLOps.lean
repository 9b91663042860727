/- What each operation of a region does, a law an operation: numbers, strings, tuples, structs, addresses, memory. No program is named here; the conditions stand in each law. -/
import Derived.Test.YtdnjjodjglikjaaSLRun
import Derived.Laws.Entries
import Derived.Laws.Cells
import Derived.Laws.Rows
import Derived.Laws.Slices
import Derived.Laws.AppendOwn
import Derived.Laws.Small
import Derived.Laws.Strings
import Derived.Laws.Pointers
import Derived.Laws.Cover3
import Derived.IntWalk
namespace Go.SL
open Go

variable {c : Cx} {K : List (Nat × Value)} {H : List Atom} {d : Option Tmp} {ty : TypeId} {pos : String} {af : Array Edge} {gd : Option (Nat × Bool)} {t t' yt : TypeId} {x y z : Operand}

theorem Op1.move {v : Value} (h : evK K x = some v) : Op1 c ⟨d, .move x, ty, pos, af, gd⟩ K H (ret v H) :=
  Op1.of_val (by simp) v fun a w hx hr hK _ => by simp [execOp, hK.eval h]
theorem Op1.assign {v : Value} (h : evK K x = some v) : Op1 c ⟨d, .assign x, ty, pos, af, gd⟩ K H (ret v H) :=
  Op1.of_val (by simp) v fun a w hx hr hK _ => by simp [execOp, hK.eval h]
theorem Op1.pick_true {v : Value} (hc : evK K x = some (.bool true)) (h : evK K y = some v) : Op1 c ⟨d, .pick x y z, ty, pos, af, gd⟩ K H (ret v H) :=
  Op1.of_val (by simp) v fun a w hx hr hK _ => by simp [execOp, hK.eval hc, hK.eval h, asBool]
theorem Op1.pick_false {v : Value} (hc : evK K x = some (.bool false)) (h : evK K z = some v) : Op1 c ⟨d, .pick x y z, ty, pos, af, gd⟩ K H (ret v H) :=
  Op1.of_val (by simp) v fun a w hx hr hK _ => by simp [execOp, hK.eval hc, hK.eval h, asBool]
theorem Op1.nilCheck {p : Addr} (h : evK K x = some (.pointer (some p))) : Op1 c ⟨d, .nilCheck x, ty, pos, af, gd⟩ K H (ret (.pointer (some p)) H) :=
  Op1.of_val (by simp) _ fun a w hx hr hK _ => by simp [execOp, hK.eval h]
theorem Op1.not {b : Bool} (h : evK K x = some (.bool b)) : Op1 c ⟨d, .unOp .not t x, ty, pos, af, gd⟩ K H (ret (.bool !b) H) :=
  Op1.of_val (by simp) _ fun a w hx hr hK _ => by simp [execOp, hK.eval h, Op.unary]
theorem Op1.extract {vs : List Value} {i : Nat} {v : Value} (h : evK K x = some (.tuple vs.toArray)) (hv : vs[i]? = some v) : Op1 c ⟨d, .extract x i, ty, pos, af, gd⟩ K H (ret v H) :=
  Op1.of_val (by simp) v fun a w hx hr hK _ => by simp [execOp, hK.eval h, Instr.extract, hv]
theorem Op1.makeFunc {fn : Fn} {f1 f2 : List Operand} {v1 v2 : List Value} (h1 : evKs K f1 = some v1) (h2 : evKs K f2 = some v2) :
    Op1 c ⟨d, .makeFunc fn f1.toArray f2.toArray, ty, pos, af, gd⟩ K H (ret (.func fn v1.toArray v2.toArray) H) :=
  Op1.of_val (by simp) _ fun a w hx hr hK _ => by
    have e1 := hK.evals h1
    have e2 := hK.evals h2
    simp [execOp, Instr.makeFunc, e1, e2]

/-! ### Tests: their outcomes stand behind names that do not unfold -/
def eqI (m n : Int) : Bool := decide (m = n)
def ltI (m n : Int) : Bool := decide (m < n)
def leI (m n : Int) : Bool := decide (m ≤ n)
def eqL (s u : List UInt8) : Bool := decide (s = u)
theorem eqI_true {m n : Int} : eqI m n = true ↔ m = n := by simp [eqI]
theorem eqI_false {m n : Int} : eqI m n = false ↔ m ≠ n := by simp [eqI]
theorem ltI_true {m n : Int} : ltI m n = true ↔ m < n := by simp [ltI]
theorem ltI_false {m n : Int} : ltI m n = false ↔ n ≤ m := by simp [ltI]
theorem leI_true {m n : Int} : leI m n = true ↔ m ≤ n := by simp [leI]
theorem leI_false {m n : Int} : leI m n = false ↔ n < m := by simp [leI]
theorem eqL_true {s u : List UInt8} : eqL s u = true ↔ s = u := by simp [eqL]
theorem eqL_false {s u : List UInt8} : eqL s u = false ↔ s ≠ u := by simp [eqL]

/-! ### Numbers -/
theorem wrap_i64 {n : Int} (h0 : -9223372036854775808 ≤ n) (h1 : n ≤ 9223372036854775807) : IntKind.i64.wrap n = n := by
  exact IntWalk.i64_in n ⟨h0, h1⟩

section ints
variable {k : IntKind} {m n : Int}
theorem Op1.add (hx : evK K x = some (.int k m)) (hy : evK K y = some (.int k n)) : Op1 c ⟨d, .binOp .add t x y yt, ty, pos, af, gd⟩ K H (ret (.int k (k.wrap (m + n))) H) :=
  Op1.of_val (by simp) _ fun a w _ _ hK _ => by simp [execOp, hK.eval hx, hK.eval hy, eqGuard_add, binOp_add, Op.intArith]
theorem Op1.sub (hx : evK K x = some (.int k m)) (hy : evK K y = some (.int k n)) : Op1 c ⟨d, .binOp .sub t x y yt, ty, pos, af, gd⟩ K H (ret (.int k (k.wrap (m - n))) H) :=
  Op1.of_val (by simp) _ fun a w _ _ hK _ => by simp [execOp, hK.eval hx, hK.eval hy, eqGuard_sub, binOp_sub, Op.intArith]
theorem Op1.mul (hx : evK K x = some (.int k m)) (hy : evK K y = some (.int k n)) : Op1 c ⟨d, .binOp .mul t x y yt, ty, pos, af, gd⟩ K H (ret (.int k (k.wrap (m * n))) H) :=
  Op1.of_val (by simp) _ fun a w _ _ hK _ => by simp [execOp, hK.eval hx, hK.eval hy, eqGuard_mul, binOp_mul, Op.intArith]
theorem Op1.addI (hx : evK K x = some (.int .i64 m)) (hy : evK K y = some (.int .i64 n)) (h0 : -9223372036854775808 ≤ m + n) (h1 : m + n ≤ 9223372036854775807) :
    Op1 c ⟨d, .binOp .add t x y yt, ty, pos, af, gd⟩ K H (ret (.int .i64 (m + n)) H) := by
  have := Op1.add (c := c) (H := H) (d := d) (ty := ty) (pos := pos) (af := af) (gd := gd) (t := t) (yt := yt) hx hy
  rwa [wrap_i64 h0 h1] at this
theorem Op1.subI (hx : evK K x = some (.int .i64 m)) (hy : evK K y = some (.int .i64 n)) (h0 : -9223372036854775808 ≤ m - n) (h1 : m - n ≤ 9223372036854775807) :
    Op1 c ⟨d, .binOp .sub t x y yt, ty, pos, af, gd⟩ K H (ret (.int .i64 (m - n)) H) := by
  have := Op1.sub (c := c) (H := H) (d := d) (ty := ty) (pos := pos) (af := af) (gd := gd) (t := t) (yt := yt) hx hy
  rwa [wrap_i64 h0 h1] at this
theorem Op1.mulI (hx : evK K x = some (.int .i64 m)) (hy : evK K y = some (.int .i64 n)) (h0 : -9223372036854775808 ≤ m * n) (h1 : m * n ≤ 9223372036854775807) :
    Op1 c ⟨d, .binOp .mul t x y yt, ty, pos, af, gd⟩ K H (ret (.int .i64 (m * n)) H) := by
  have := Op1.mul (c := c) (H := H) (d := d) (ty := ty) (pos := pos) (af := af) (gd := gd) (t := t) (yt := yt) hx hy
  rwa [wrap_i64 h0 h1] at this
theorem Op1.rem (hx : evK K x = some (.int k m)) (hy : evK K y = some (.int k n)) (h0 : 0 ≤ m) (h1 : 0 < n) :
    Op1 c ⟨d, .binOp .rem t x y yt, ty, pos, af, gd⟩ K H (ret (.int k (m % n)) H) :=
  Op1.of_val (by simp) _ fun a w _ _ hK _ => by
    have hne : n ≠ 0 := by omega
    simp [execOp, hK.eval hx, hK.eval hy, eqGuard_rem, binOp_rem, Op.intDiv, hne, Int.tmod_eq_emod_of_nonneg h0]
theorem Op1.quo (hx : evK K x = some (.int k m)) (hy : evK K y = some (.int k n)) (h0 : 0 ≤ m) (h1 : 0 < n) (hw : k.wrap (m / n) = m / n) :
    Op1 c ⟨d, .binOp .quo t x y yt, ty, pos, af, gd⟩ K H (ret (.int k (m / n)) H) :=
  Op1.of_val (by simp) _ fun a w _ _ hK _ => by
    have hne : n ≠ 0 := by omega
    simp [execOp, hK.eval hx, hK.eval hy, eqGuard_quo, binOp_quo, Op.intDiv, hne, Int.tdiv_eq_ediv_of_nonneg h0, hw]
theorem Op1.eql (hx : evK K x = some (.int k m)) (hy : evK K y = some (.int k n)) : Op1 c ⟨d, .binOp .eql t x y yt, ty, pos, af, gd⟩ K H (ret (.bool (eqI m n)) H) :=
  Op1.of_val (by simp) _ fun a w _ _ hK _ => by simp [execOp, hK.eval hx, hK.eval hy, eqGuard_at_int, binOp_eql]; rfl
theorem Op1.neq (hx : evK K x = some (.int k m)) (hy : evK K y = some (.int k n)) : Op1 c ⟨d, .binOp .neq t x y yt, ty, pos, af, gd⟩ K H (ret (.bool (!eqI m n)) H) :=
  Op1.of_val (by simp) _ fun a w _ _ hK _ => by simp [execOp, hK.eval hx, hK.eval hy, eqGuard_at_int, binOp_neq]; rfl
theorem Op1.lss (hx : evK K x = some (.int k m)) (hy : evK K y = some (.int k n)) : Op1 c ⟨d, .binOp .lss t x y yt, ty, pos, af, gd⟩ K H (ret (.bool (ltI m n)) H) :=
  Op1.of_val (by simp) _ fun a w _ _ hK _ => by simp [execOp, hK.eval hx, hK.eval hy, eqGuard_lss, binOp_lss, ltI]
theorem Op1.leq (hx : evK K x = some (.int k m)) (hy : evK K y = some (.int k n)) : Op1 c ⟨d, .binOp .leq t x y yt, ty, pos, af, gd⟩ K H (ret (.bool (leI m n)) H) :=
  Op1.of_val (by simp) _ fun a w _ _ hK _ => by simp [execOp, hK.eval hx, hK.eval hy, eqGuard_leq, binOp_leq, leI]
theorem Op1.gtr (hx : evK K x = some (.int k m)) (hy : evK K y = some (.int k n)) : Op1 c ⟨d, .binOp .gtr t x y yt, ty, pos, af, gd⟩ K H (ret (.bool (ltI n m)) H) :=
  Op1.of_val (by simp) _ fun a w _ _ hK _ => by simp [execOp, hK.eval hx, hK.eval hy, eqGuard_gtr, binOp_gtr, ltI]
theorem Op1.geq (hx : evK K x = some (.int k m)) (hy : evK K y = some (.int k n)) : Op1 c ⟨d, .binOp .geq t x y yt, ty, pos, af, gd⟩ K H (ret (.bool (leI n m)) H) :=
  Op1.of_val (by simp) _ fun a w _ _ hK _ => by simp [execOp, hK.eval hx, hK.eval hy, eqGuard_geq, binOp_geq, leI]
theorem Op1.convert {k' : IntKind} {sd : TypeDesc} (hs : c.P.underlying t = some sd) (ht : c.P.underlying t' = some (.int k')) (hx : evK K x = some (.int k m)) :
    Op1 c ⟨d, .convert t t' x, ty, pos, af, gd⟩ K H (ret (.int k' (k'.wrap m)) H) :=
  Op1.of_val (by simp) _ fun a w _ _ hK _ => by
    simp [execOp, hK.eval hx, Go.convert, run_underlying hs, run_underlying ht, Conv.intToInt]
theorem Op1.min (hx : evK K x = some (.int k m)) (hy : evK K y = some (.int k n)) {at_ : Array TypeId} :
    Op1 c ⟨d, .call ⟨.builtin .min, #[x, y], at_⟩, ty, pos, af, gd⟩ K H (ret (.int k (Min.min m n)) H) :=
  Op1.of_val (by simp) _ fun a w _ _ hK _ => by
    simp only [execOp, resolve, Sem.run_bind, Sem.run_pure, Result.andThen_ok, invoke, builtin, Builtin.min_, List.map_toArray, List.map_cons, List.map_nil, hK.eval hx, hK.eval hy, List.foldlM, Builtin.min2]
    rw [show (if n < m then n else m) = Min.min m n from by omega]
theorem Op1.max (hx : evK K x = some (.int k m)) (hy : evK K y = some (.int k n)) {at_ : Array TypeId} :
    Op1 c ⟨d, .call ⟨.builtin .max, #[x, y], at_⟩, ty, pos, af, gd⟩ K H (ret (.int k (Max.max m n)) H) :=
  Op1.of_val (by simp) _ fun a w _ _ hK _ => by
    simp only [execOp, resolve, Sem.run_bind, Sem.run_pure, Result.andThen_ok, invoke, builtin, Builtin.max_, List.map_toArray, List.map_cons, List.map_nil, hK.eval hx, hK.eval hy, List.foldlM, Builtin.max2]
    rw [show (if n > m then n else m) = Max.max m n from by omega]
end ints

theorem Op1.eqlB {m n : Bool} (ht : c.P.underlying t = some .bool) (hx : evK K x = some (.bool m)) (hy : evK K y = some (.bool n)) : Op1 c ⟨d, .binOp .eql t x y yt, ty, pos, af, gd⟩ K H (ret (.bool (m == n)) H) :=
  Op1.of_val (by simp) _ fun a w _ _ hK _ => by
    simp [execOp, hK.eval hx, hK.eval hy, eqGuard_at_bool, binOp, run_equal_bool _ _ _ _ ht]
theorem Op1.neqB {m n : Bool} (ht : c.P.underlying t = some .bool) (hx : evK K x = some (.bool m)) (hy : evK K y = some (.bool n)) : Op1 c ⟨d, .binOp .neq t x y yt, ty, pos, af, gd⟩ K H (ret (.bool (!(m == n))) H) :=
  Op1.of_val (by simp) _ fun a w _ _ hK _ => by
    simp [execOp, hK.eval hx, hK.eval hy, eqGuard_at_bool, binOp, run_equal_bool _ _ _ _ ht]

/-! ### Strings -/
section strings
variable {s u : ByteArray}
theorem Op1.eqlS (hx : evK K x = some (.string s)) (hy : evK K y = some (.string u)) : Op1 c ⟨d, .binOp .eql t x y yt, ty, pos, af, gd⟩ K H (ret (.bool (eqL s.data.toList u.data.toList)) H) :=
  Op1.of_val (by simp) _ fun a w _ _ hK _ => by
    have e : (s.toList == u.toList) = eqL s.data.toList u.data.toList := by rw [ByteArray.toList_eq, ByteArray.toList_eq, Bool.eq_iff_iff, eqL]; simp
    simp only [execOp, hK.eval hx, hK.eval hy, eqGuard_at_string, binOp, Op.stringOp, e, Sem.run_bind, Sem.run_pure, Result.andThen_ok]
theorem Op1.neqS (hx : evK K x = some (.string s)) (hy : evK K y = some (.string u)) : Op1 c ⟨d, .binOp .neq t x y yt, ty, pos, af, gd⟩ K H (ret (.bool (!eqL s.data.toList u.data.toList)) H) :=
  Op1.of_val (by simp) _ fun a w _ _ hK _ => by
    have e : (s.toList == u.toList) = eqL s.data.toList u.data.toList := by rw [ByteArray.toList_eq, ByteArray.toList_eq, Bool.eq_iff_iff, eqL]; simp
    simp only [execOp, hK.eval hx, hK.eval hy, eqGuard_at_string, binOp, Op.stringOp, e, Sem.run_bind, Sem.run_pure, Result.andThen_ok]
theorem Op1.lenS (ht : c.P.underlying t = some .string) (hx : evK K x = some (.string s)) : Op1 c ⟨d, .call ⟨.builtin .len, #[x], #[t]⟩, ty, pos, af, gd⟩ K H (ret (.int .i64 s.size) H) :=
  Op1.of_val (by simp) _ fun a w _ _ hK _ => by
    simp [execOp, resolve, invoke, builtin, Builtin.len_, hK.eval hx, run_underlying ht, goInt]
theorem Op1.indexS {k : IntKind} {i : Int} (ht : c.P.underlying t = some .string) (hx : evK K x = some (.string s)) (hy : evK K y = some (.int k i)) (h0 : 0 ≤ i) (h1 : i < s.size) :
    Op1 c ⟨d, .index t x y, ty, pos, af, gd⟩ K H (ret (.int .u8 ((s.data.toList.getD i.toNat 0).toNat : Nat)) H) :=
  Op1.of_val (by simp) _ fun a w _ _ hK _ => by
    obtain ⟨n, rfl⟩ := Int.eq_ofNat_of_zero_le h0
    have hn : n < s.size := by omega
    simp [execOp, Instr.index, asIntOf, hK.eval hx, hK.eval hy, run_underlying ht, hn, List.getD]
    rfl
end strings

/-! ### Slices and memory -/
theorem Op1.lenL {e : TypeId} {p : Option Addr} {n m : Nat} (ht : c.P.underlying t = some (.slice e)) (hx : evK K x = some (.slice p n m)) : Op1 c ⟨d, .call ⟨.builtin .len, #[x], #[t]⟩, ty, pos, af, gd⟩ K H (ret (.int .i64 n) H) :=
  Op1.of_val (by simp) _ fun a w _ _ hK _ => by
    simp [execOp, resolve, invoke, builtin, Builtin.len_, hK.eval hx, run_underlying ht, goInt]
theorem Op1.capL {e : TypeId} {p : Option Addr} {n m : Nat} (ht : c.P.underlying t = some (.slice e)) (hx : evK K x = some (.slice p n m)) : Op1 c ⟨d, .call ⟨.builtin .cap, #[x], #[t]⟩, ty, pos, af, gd⟩ K H (ret (.int .i64 m) H) :=
  Op1.of_val (by simp) _ fun a w _ _ hK _ => by
    simp [execOp, resolve, invoke, builtin, Builtin.cap_, hK.eval hx, run_underlying ht, goInt]

/-- A block of cells that one owns. -/
abbrev blk (b : Nat) (l : List Value) (e : TypeId) : Atom := pt b (.cells ⟨l⟩ e (0, 0))
/-- A block of cells that nobody writes any more. -/
abbrev rdk (b : Nat) (l : List Value) (e : TypeId) : Atom := rd b (.cells ⟨l⟩ e (0, 0))

theorem Sat.at_pt {b : Nat} {o : Obj} {H' : List Atom} {hx hr : Hp} (p : Pick (pt b o) H H') (s : Sat H hx hr) : hx b = some o := by
  obtain ⟨h1, h2, j, rfl, _⟩ := s.pick p
  exact j.left (by simp [one])
theorem G.at_pt {w : World} {b : Nat} {o : Obj} {H' : List Atom} {hx hr : Hp} (p : Pick (pt b o) H H') (g : G w H hx hr) : w.heap[b]? = some o := g.own _ _ (g.sat.at_pt p)
theorem G.at_rd {w : World} {b : Nat} {o : Obj} {H' : List Atom} {hx hr : Hp} (p : Pick (rd b o) H H') (g : G w H hx hr) : w.heap[b]? = some o := by
  obtain ⟨h1, h2, j, ⟨_, h⟩, _⟩ := g.sat.pick p
  exact g.red _ _ h
/-- Block b is there and is o: owned, or read only. -/
inductive Has (b : Nat) (o : Obj) (H : List Atom) : Prop
  | own {H' : List Atom} : Pick (pt b o) H H' → Has b o H
  | red {H' : List Atom} : Pick (rd b o) H H' → Has b o H
theorem G.has {w : World} {b : Nat} {o : Obj} {hx hr : Hp} (p : Has b o H) (g : G w H hx hr) : w.heap[b]? = some o := by
  cases p with
  | own p => exact g.at_pt p
  | red p => exact g.at_rd p
theorem Has.there {b : Nat} {o : Obj} {A : Atom} (p : Has b o H) : Has b o (A :: H) := by
  cases p with
  | own p => exact .own (.there p)
  | red p => exact .red (.there p)

theorem run_isAgg_false {P : Program} {t : TypeId} {dd : TypeDesc} (h : P.underlying t = some dd) (hd : (match dd with | .struct _ | .array _ _ => true | _ => false) = false) (w : World) : (isAgg t).run P w = .ok false w := by
  simp only [isAgg, Sem.run_bind, run_underlying h, Result.andThen_ok]
  cases dd <;> first | rfl | cases hd
theorem run_isAgg_true {P : Program} {t : TypeId} {dd : TypeDesc} (h : P.underlying t = some dd) (hd : (match dd with | .struct _ | .array _ _ => true | _ => false) = true) (w : World) : (isAgg t).run P w = .ok true w := by
  simp only [isAgg, Sem.run_bind, run_underlying h, Result.andThen_ok]
  cases dd <;> first | rfl | cases hd
theorem run_sizeOf {P : Program} {t : TypeId} {i : TypeInfo} (h : P.info? t = some i) (w : World) : (sizeOf t).run P w = .ok i.size w := by
  simp [sizeOf, typeInfo, h]
theorem run_zeroValue {P : Program} {t : TypeId} {i : TypeInfo} {z : Value} (h : P.info? t = some i) (hz : i.zero = some z) (w : World) : (zeroValue t).run P w = .ok z w := by
  simp [zeroValue, typeInfo, h, hz]

/-- The type's values take one cell. -/
def scalar (P : Program) (t : TypeId) : Bool :=
  match P.underlying t with
  | some (.struct _) => false
  | some (.array _ _) => false
  | some _ => true
  | none => false
/-- How many cells a struct's or an array's value takes. -/
def cellsIf (P : Program) (t : TypeId) : Option Nat :=
  match P.underlying t with
  | some (.struct _) => (P.info? t).map (·.size)
  | some (.array _ _) => (P.info? t).map (·.size)
  | _ => none
theorem run_scalar {P : Program} {t : TypeId} (h : scalar P t = true) (w : World) : (isAgg t).run P w = .ok false w := by
  unfold scalar at h
  cases hu : P.underlying t with
  | none => simp [hu] at h
  | some dd => refine run_isAgg_false hu ?_ w; rw [hu] at h; cases dd <;> first | rfl | simp at h
theorem run_cellsIf {P : Program} {t : TypeId} {n : Nat} (h : cellsIf P t = some n) (w : World) : (isAgg t).run P w = .ok true w ∧ (sizeOf t).run P w = .ok n w := by
  unfold cellsIf at h
  cases hu : P.underlying t with
  | none => simp [hu] at h
  | some dd =>
    rw [hu] at h
    cases dd <;> simp at h
    all_goals
      obtain ⟨i, hi, rfl⟩ := h
      exact ⟨run_isAgg_true hu rfl w, run_sizeOf hi w⟩

theorem Op1.load {b off : Nat} {l : List Value} {e : TypeId} {fz : Nat × Nat} {v : Value} (hs : scalar c.P t = true) (hx : evK K x = some (.pointer (some ⟨b, off, none⟩))) (p : Has b (.cells ⟨l⟩ e fz) H) (hv : l[off]? = some v) :
    Op1 c ⟨d, .load t x, ty, pos, af, gd⟩ K H (ret v H) :=
  Op1.of_val (by simp) _ fun a w _ _ hK hG => by
    have hc : w.cell? ⟨b, off, none⟩ = some v := by simp [World.cell?, hG.has p, hv]
    simp [execOp, Instr.loadAt, Instr.sureAddr, hK.eval hx, loadVar, run_scalar hs, hc]
theorem run_cells_at {P : Program} {w : World} {b off n : Nat} {l vs : List Value} {e : TypeId} {fz : Nat × Nat} (hw : w.heap[b]? = some (.cells ⟨l⟩ e fz)) (hl : (l.drop off).take n = vs) (hn : vs.length = n) :
    (loadCells ⟨b, off, none⟩ n).run P w = .ok vs.toArray w := by
  rw [← hn]
  refine run_loadCells_list (P := P) (w := w) ⟨b, off, none⟩ vs fun j v hv => ?_
  have : l[off + j]? = some v := by
    rw [← hl, List.getElem?_take] at hv
    split at hv
    · simpa using hv
    · cases hv
  rw [Addr.add_lit]
  simp [World.cell?, hw, this]
theorem Op1.loadA {b off n : Nat} {l vs : List Value} {e : TypeId} {fz : Nat × Nat} (hs : cellsIf c.P t = some n) (hx : evK K x = some (.pointer (some ⟨b, off, none⟩))) (p : Has b (.cells ⟨l⟩ e fz) H)
    (hl : (l.drop off).take n = vs) (hn : vs.length = n) :
    Op1 c ⟨d, .load t x, ty, pos, af, gd⟩ K H (ret (.agg vs.toArray) H) :=
  Op1.of_val (by simp) _ fun a w _ _ hK hG => by
    obtain ⟨h1, h2⟩ := run_cellsIf hs w
    simp [execOp, Instr.loadAt, Instr.sureAddr, hK.eval hx, loadVar, h1, h2, run_cells_at (hG.has p) hl hn]

/-- What is owned of block b turns into o'. -/
theorem G.put {w w' : World} {b : Nat} {o o' : Obj} {H1 : List Atom} {hx hr : Hp} (p : Pick (pt b o) H H1) (g : G w H hx hr)
    (hos : w'.os = w.os) (htape : w'.tape = w.tape) (hout : w'.output = w.output) (hsz : w.heap.size = w'.heap.size) (hb : w'.heap[b]? = some o') (hk : ∀ k, k ≠ b → w'.heap[k]? = w.heap[k]?) :
    ∃ hx', G w' (pt b o' :: H1) hx' hr ∧ Stp w hx hr w' hx' hr := by
  obtain ⟨h1, h2, j, rfl, s⟩ := g.sat.pick p
  have h2b : h2 b = none := by
    rcases j.dj b with h | h
    · simp [one] at h
    · exact h
  have hd : Dj (one b o') h2 := fun k => by
    by_cases e : k = b
    · subst e; exact .inr h2b
    · exact .inl (by simp [one, e])
  have hj := Join.of_dj hd
  have hxb : hx b = some o := j.left (by simp [one])
  have hxn : ∀ k, k ≠ b → (both (one b o') h2) k = hx k := fun k e => by
    have h1k : one b o k = none := by simp [one, e]
    have : (one b o') k = none := by simp [one, e]
    rcases j k with ⟨_, h4⟩ | ⟨h3, h4⟩
    · simp [both, this, h4]
    · simp [both, this, h4, h1k, h3]
  refine ⟨both (one b o') h2, ⟨⟨one b o', h2, hj, rfl, s⟩, fun k u e => ?_, fun k u e => ?_, fun k => ?_⟩, ⟨hos, htape, hout, by omega, fun k _ e => ?_, fun k e _ => ?_, Hp.le_refl _, fun _ _ h _ => h⟩⟩
  · by_cases ek : k = b
    · subst ek
      rw [hb]
      simpa [both, one] using e
    · rw [hk k ek]
      rw [hxn k ek] at e
      exact g.own k u e
  · by_cases ek : k = b
    · subst ek
      rcases g.dj k with h | h
      · rw [hxb] at h; cases h
      · rw [h] at e; cases e
    · rw [hk k ek]; exact g.red k u e
  · by_cases ek : k = b
    · subst ek
      rcases g.dj k with h | h
      · rw [hxb] at h; cases h
      · exact .inr h
    · rw [hxn k ek]; exact g.dj k
  · have ek : k ≠ b := fun ek => by subst ek; rw [hxb] at e; cases e
    exact hk k ek
  · have ek : k ≠ b := fun ek => by subst ek; rw [hxb] at e; cases e
    rw [hxn k ek]; exact e
/-- A new block. -/
theorem G.new {w w' : World} {o : Obj} {hx hr : Hp} (g : G w H hx hr)
    (hos : w'.os = w.os) (htape : w'.tape = w.tape) (hout : w'.output = w.output) (hheap : w'.heap = w.heap.push o) :
    ∃ hx', G w' (pt w.heap.size o :: H) hx' hr ∧ Stp w hx hr w' hx' hr := by
  have hxb : hx w.heap.size = none := g.own.none (Nat.le_refl _)
  have hd : Dj (one w.heap.size o) hx := fun k => by
    by_cases e : k = w.heap.size
    · subst e; exact .inr hxb
    · exact .inl (by simp [one, e])
  have hj := Join.of_dj hd
  have hold : ∀ k, k < w.heap.size → w'.heap[k]? = w.heap[k]? := fun k h => by
    rw [hheap, Array.getElem?_push, if_neg (by omega)]
  refine ⟨both (one w.heap.size o) hx, ⟨⟨_, hx, hj, rfl, g.sat⟩, fun k u e => ?_, fun k u e => ?_, fun k => ?_⟩, ⟨hos, htape, hout, by simp [hheap], fun k h _ => hold k h, fun k e h => ?_, Hp.le_refl _, fun _ _ h _ => h⟩⟩
  · by_cases ek : k = w.heap.size
    · subst ek
      have : o = u := by simpa [both, one] using e
      rw [hheap]; simp [this]
    · have e' : hx k = some u := by simpa [both, one, ek] using e
      rw [hold k (g.own.lt e')]; exact g.own k u e'
  · rw [hold k (g.red.lt e)]; exact g.red k u e
  · by_cases ek : k = w.heap.size
    · subst ek; exact .inr (g.red.none (Nat.le_refl _))
    · rcases g.dj k with h | h
      · exact .inl (by simp [both, one, ek, h])
      · exact .inr h
  · have : k ≠ w.heap.size := by omega
    simp [both, one, this, e]

theorem Op1.box {e : TypeId} {v : Value} (hx : evK K x = some v) :
    Op1 c ⟨d, .box e x, ty, pos, af, gd⟩ K H (fun v' H' => ∃ b, v' = .pointer (some ⟨b, 0, none⟩) ∧ H' = blk b v.cells.toList e :: H) :=
  Op1.of_run (by simp) fun a w hx' hr hK hG => by
    obtain ⟨hx2, g, st⟩ := hG.new (w' := { w with heap := w.heap.push (.cells v.cells e) }) (o := .cells v.cells e) rfl rfl rfl rfl
    refine ⟨_, _, _, hx2, hr, ⟨w.heap.size, rfl, rfl⟩, g, st, .inl ?_⟩
    simp [execOp, Instr.box, newVar, newRow, hK.eval hx]
theorem Op1.alloc {e : TypeId} {v : Value} {i : TypeInfo} (hi : c.P.info? e = some i) (hz : i.zero = some v) :
    Op1 c ⟨d, .alloc e, ty, pos, af, gd⟩ K H (fun v' H' => ∃ b, v' = .pointer (some ⟨b, 0, none⟩) ∧ H' = blk b v.cells.toList e :: H) :=
  Op1.of_run (by simp) fun a w hx' hr hK hG => by
    obtain ⟨hx2, g, st⟩ := hG.new (w' := { w with heap := w.heap.push (.cells v.cells e) }) (o := .cells v.cells e) rfl rfl rfl rfl
    refine ⟨_, _, _, hx2, hr, ⟨w.heap.size, rfl, rfl⟩, g, st, .inl ?_⟩
    simp [execOp, Instr.alloc, run_zeroValue hi hz, newVar, newRow]

/-! Storing: 'Upd l n vs l'': from place n on l bears vs. -/
inductive Upd : List Value → Nat → List Value → List Value → Prop
  | nil {l : List Value} : Upd l 0 [] l
  | zero {x v : Value} {l vs l' : List Value} : Upd l 0 vs l' → Upd (x :: l) 0 (v :: vs) (v :: l')
  | succ {x : Value} {l vs l' : List Value} {n : Nat} : Upd l n vs l' → Upd (x :: l) (n + 1) vs (x :: l')
theorem Upd.set {l l' : List Value} {n : Nat} {v : Value} (h : n < l.length) (e : l.set n v = l') : Upd l n [v] l' := by
  subst e
  induction l generalizing n with
  | nil => simp at h
  | cons x l ih =>
    cases n with
    | zero => exact .zero .nil
    | succ n => exact .succ (ih (by simpa using h))
theorem Upd.eq {l l' vs : List Value} {n : Nat} (u : Upd l n vs l') : n + vs.length ≤ l.length ∧ l' = l.take n ++ vs ++ l.drop (n + vs.length) := by
  induction u with
  | nil => simp
  | zero _ ih => obtain ⟨h1, h2⟩ := ih; simp at h1 h2 ⊢; exact ⟨h1, h2⟩
  | succ _ ih =>
    obtain ⟨h1, h2⟩ := ih
    refine ⟨by simp only [List.length_cons]; omega, ?_⟩
    rw [h2]
    simp [Nat.add_right_comm]
theorem Upd.one {l l' : List Value} {n : Nat} {v : Value} (u : Upd l n [v] l') : n < l.length ∧ l' = l.set n v := by
  obtain ⟨h1, h2⟩ := u.eq
  simp only [List.length_cons, List.length_nil] at h1
  refine ⟨by omega, ?_⟩
  rw [h2, List.set_eq_take_append_cons_drop, if_pos (by omega)]
  simp

theorem Upd.next {l l' vs : List Value} {n : Nat} {v : Value} (u : Upd l n (v :: vs) l') : Upd (l.set n v) (n + 1) vs l' := by
  induction l generalizing n l' with
  | nil => cases u
  | cons x l ih =>
    cases u with
    | zero u => exact .succ u
    | succ u => exact .succ (ih u)
theorem heap_storeCells {P : Program} {b : Nat} {e : TypeId} : ∀ (vs : List Value) (off i : Nat) (l l' : List Value) (w : World), w.heap[b]? = some (.cells ⟨l⟩ e (0, 0)) → Upd l (off + i) vs l' → (∀ v ∈ vs, v.oneCell' = true) →
    ∃ w', (storeCells ⟨b, off, none⟩ vs i).run P w = .ok () w' ∧ w'.os = w.os ∧ w'.tape = w.tape ∧ w'.output = w.output ∧ w'.heap.size = w.heap.size ∧ w'.heap[b]? = some (.cells ⟨l'⟩ e (0, 0)) ∧ ∀ k, k ≠ b → w'.heap[k]? = w.heap[k]?
  | [], off, i, l, l', w, hb, u, _ => by
    have : l' = l := by have := u.eq.2; simpa using this
    subst this
    exact ⟨w, rfl, rfl, rfl, rfl, rfl, hb, fun _ _ => rfl⟩
  | v :: vs, off, i, l, l', w, hb, u, h1 => by
    obtain ⟨hle, he⟩ := u.eq
    simp only [List.length_cons] at hle
    have hlt : off + i < l.length := by omega
    have hcell : w.cell? ⟨b, off + i, none⟩ = some l[off + i] := by simp [World.cell?, hb, hlt]
    have hfz : w.frozen? ⟨b, off + i, none⟩ = false := frozen_of_row w b (off + i) ⟨l⟩ e hb
    have hb' : (w.setCell ⟨b, off + i, none⟩ v).heap[b]? = some (.cells ⟨l.set (off + i) v⟩ e (0, 0)) := by
      rw [heap_setCell_same w b (off + i) ⟨l⟩ e v hb]
      simp
    have hu : Upd (l.set (off + i) v) (off + (i + 1)) vs l' := u.next
    obtain ⟨w', r, a1, a2, a3, a4, a5, a6⟩ := heap_storeCells vs off (i + 1) _ l' (w.setCell ⟨b, off + i, none⟩ v) hb' hu (fun v hv => h1 v (by simp [hv]))
    refine ⟨w', ?_, a1, a2, a3, by rw [a4]; simp, a5, fun k hk => (a6 k hk).trans (heap_setCell_other w ⟨b, off + i, none⟩ k v hk)⟩
    simp only [storeCells, Sem.run_bind, Addr.add_lit]
    rw [run_store P w _ v _ (h1 v (by simp)), hcell]
    simp only [hfz]
    exact r

/-- No struct, no tuple. -/
theorem Op1.storeN {b off : Nat} {l l' vs : List Value} {e : TypeId} {H1 : List Atom} {n : Nat} {i : TypeInfo} {v : Value} (hi : c.P.info? t = some i) (hn : i.size = n) (hx : evK K x = some (.pointer (some ⟨b, off, none⟩))) (hy : evK K y = some v)
    (hvs : v.cells = vs.toArray) (hlen : vs.length = n) (h1 : ∀ u ∈ vs, u.oneCell' = true) (p : Pick (blk b l e) H H1) (u : Upd l off vs l') :
    Op1 c ⟨d, .store t x y, ty, pos, af, gd⟩ K H (ret undef (blk b l' e :: H1)) :=
  Op1.of_run (by simp) fun a w hx' hr hK hG => by
    obtain ⟨w', r, a1, a2, a3, a4, a5, a6⟩ := heap_storeCells (P := c.P) vs off 0 l l' w (hG.at_pt p) u h1
    obtain ⟨hx2, g, st⟩ := hG.put p (o' := .cells ⟨l'⟩ e (0, 0)) a1 a2 a3 a4.symm a5 a6
    refine ⟨_, w', _, hx2, hr, ⟨rfl, rfl⟩, g, st, .inr ⟨rfl, ?_⟩⟩
    have hsz : v.cells.size = i.size := by rw [hvs, hn]; simpa using hlen
    simp [execOp, Instr.storeAt, Instr.sureAddr, hK.eval hx, hK.eval hy, storeVar, run_sizeOf hi, hsz]
    rw [hvs]
    simp [r]

/-- Where a struct's field lies; its type takes a cell at least. -/
def fieldOff (P : Program) (s : TypeId) (f : Nat) : Option Nat :=
  match P.underlying s with
  | some (.struct fs) =>
    match fs.toList[f]? with
    | some fd => match P.info? fd.type with
      | some i => match i.size with
        | 0 => none
        | _ + 1 => some fd.offset
      | none => none
    | none => none
  | _ => none
theorem run_fieldAt {P : Program} {s : TypeId} {f n b off : Nat} (h : fieldOff P s f = some n) (w : World) :
    (Instr.fieldAt s (.pointer (some ⟨b, off, none⟩)) f).run P w = .ok (.pointer (some ⟨b, off + n, none⟩)) w := by
  unfold fieldOff at h
  split at h
  · rename_i fs hfs
    split at h
    · rename_i fd hfd
      split at h
      · rename_i i hi
        split at h
        · cases h
        · rename_i m hm
          simp only [Option.some.injEq] at h
          subst h
          have hfd' : fs[f]? = some fd := by simpa using hfd
          simp [Instr.fieldAt, run_underlying hfs, hfd', Instr.sureAddr, fieldPlace, run_sizeOf hi, hm, Addr.add_lit]
      · cases h
    · cases h
  · cases h
theorem Op1.fieldAddr {b off n f : Nat} (h : fieldOff c.P t f = some n) (hx : evK K x = some (.pointer (some ⟨b, off, none⟩))) :
    Op1 c ⟨d, .fieldAddr t x f, ty, pos, af, gd⟩ K H (ret (.pointer (some ⟨b, off + n, none⟩)) H) :=
  Op1.of_val (by simp) _ fun a w _ _ hK _ => by
    simp [execOp, hK.eval hx, run_fieldAt h]

end Go.SL
