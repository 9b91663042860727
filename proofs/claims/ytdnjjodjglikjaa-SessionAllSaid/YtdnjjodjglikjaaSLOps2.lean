/- More laws of operations: arrays and structs by value, slices, make, append, copy, comparisons with nil. No program is named here; the conditions stand in each law. -/
import Derived.Test.YtdnjjodjglikjaaSLMore
namespace Go.SL
open Go

variable {c : Cx} {K : List (Nat × Value)} {H : List Atom} {d : Option Tmp} {ty : TypeId} {pos : String} {af : Array Edge} {gd : Option (Nat × Bool)} {t t' yt : TypeId} {x y z : Operand}

/-! ### Parts of a list, by their form -/
inductive CellsR : Value → List Value → Prop
  | agg {l : List Value} : CellsR (.agg ⟨l⟩) l
  | one {v : Value} : v.oneCell' = true → CellsR v [v]
theorem CellsR.eq {v : Value} {l : List Value} (h : CellsR v l) : v.cells = l.toArray := by
  cases h with
  | agg => rfl
  | one h => cases v <;> first | rfl | cases h
inductive SubL : List Value → Nat → Nat → List Value → Prop
  | nil {l : List Value} : SubL l 0 0 []
  | zero {x : Value} {l vs : List Value} {n : Nat} : SubL l 0 n vs → SubL (x :: l) 0 (n + 1) (x :: vs)
  | succ {x : Value} {l vs : List Value} {n m : Nat} : SubL l m n vs → SubL (x :: l) (m + 1) n vs
theorem SubL.eq {l vs : List Value} {m n : Nat} (h : SubL l m n vs) : (l.drop m).take n = vs ∧ vs.length = n := by
  induction h with
  | nil => simp
  | zero _ ih => obtain ⟨h1, h2⟩ := ih; simp at h1 h2 ⊢; exact ⟨h1, h2⟩
  | succ _ ih => simpa using ih
theorem SubL.of {l : List Value} {m n : Nat} (h : m + n ≤ l.length) : SubL l m n ((l.drop m).take n) := by
  induction l generalizing m n with
  | nil => simp at h; obtain ⟨rfl, rfl⟩ := h; simpa using SubL.nil
  | cons x l ih =>
    cases m with
    | zero =>
      cases n with
      | zero => simpa using SubL.nil
      | succ n => simpa using SubL.zero (by simpa using ih (m := 0) (n := n) (by simp at h; omega))
    | succ m => simpa using SubL.succ (ih (by simp at h; omega))
theorem Op1.loadS {b off n : Nat} {l vs : List Value} {e : TypeId} {fz : Nat × Nat} (hs : cellsIf c.P t = some n) (hx : evK K x = some (.pointer (some ⟨b, off, none⟩))) (p : Has b (.cells ⟨l⟩ e fz) H)
    (hl : SubL l off n vs) : Op1 c ⟨d, .load t x, ty, pos, af, gd⟩ K H (ret (.agg ⟨vs⟩) H) :=
  Op1.loadA hs hx p hl.eq.1 hl.eq.2
theorem Op1.store {b off : Nat} {l l' vs : List Value} {e : TypeId} {H1 : List Atom} {n : Nat} {v : Value} (hi : (c.P.info? t).map (·.size) = some n) (hx : evK K x = some (.pointer (some ⟨b, off, none⟩))) (hy : evK K y = some v)
    (hvs : CellsR v vs) (hlen : vs.length = n) (h1 : (vs.all (·.oneCell')) = true) (p : Pick (blk b l e) H H1) (u : Upd l off vs l') :
    Op1 c ⟨d, .store t x y, ty, pos, af, gd⟩ K H (ret undef (blk b l' e :: H1)) := by
  obtain ⟨i, hi, hn⟩ := Option.map_eq_some_iff.1 hi
  exact Op1.storeN hi hn hx hy hvs.eq hlen (by simpa [List.all_eq_true] using h1) p u

theorem ones_nil : (([] : List Value).all (·.oneCell')) = true := rfl
theorem ones_cons {v : Value} {vs : List Value} (h1 : v.oneCell' = true) (h2 : (vs.all (·.oneCell')) = true) : ((v :: vs).all (·.oneCell')) = true := by
  rw [List.all_cons, h1, h2]; rfl

/-! ### By value -/
theorem Op1.indexA {k : IntKind} {i : Int} {n : Nat} {e : TypeId} {cs : List Value} {v : Value} (ht : c.P.underlying t = some (.array n e)) (he : scalar c.P e = true) (h1 : (c.P.info? e).map (·.size) = some 1)
    (hx : evK K x = some (.agg ⟨cs⟩)) (hy : evK K y = some (.int k i)) (h0 : 0 ≤ i) (hn : i < n) (hv : cs[i.toNat]? = some v) : Op1 c ⟨d, .index t x y, ty, pos, af, gd⟩ K H (ret v H) :=
  Op1.of_val (by simp) _ fun a w _ _ hK _ => by
    obtain ⟨j, hj, hs⟩ := Option.map_eq_some_iff.1 h1
    have hs' : j.size = 1 := hs
    simp [execOp, Instr.index, asIntOf, hK.eval hx, hK.eval hy, run_underlying ht, h0, hn, part, run_scalar he, run_sizeOf hj, hs', hv]
theorem Op1.fieldV {f off : Nat} {fs : Array Field} {fd : Field} {cs : List Value} {v : Value} (ht : c.P.underlying t = some (.struct fs)) (hf : fs[f]? = some fd) (he : scalar c.P fd.type = true) (ho : fd.offset = off)
    (hx : evK K x = some (.agg ⟨cs⟩)) (hv : cs[off]? = some v) : Op1 c ⟨d, .field t x f, ty, pos, af, gd⟩ K H (ret v H) :=
  Op1.of_val (by simp) _ fun a w _ _ hK _ => by
    subst ho
    simp [execOp, Instr.field, asAgg, hK.eval hx, run_underlying ht, hf, part, run_scalar he, hv]
theorem Op1.fieldA {f off n : Nat} {fs : Array Field} {fd : Field} {cs vs : List Value} (ht : c.P.underlying t = some (.struct fs)) (hf : fs[f]? = some fd) (he : cellsIf c.P fd.type = some n) (ho : fd.offset = off)
    (hx : evK K x = some (.agg ⟨cs⟩)) (hv : SubL cs off n vs) : Op1 c ⟨d, .field t x f, ty, pos, af, gd⟩ K H (ret (.agg ⟨vs⟩) H) :=
  Op1.of_val (by simp) _ fun a w _ _ hK _ => by
    subst ho
    obtain ⟨h1, h2⟩ := run_cellsIf he w
    obtain ⟨e1, _⟩ := hv.eq
    simp [execOp, Instr.field, asAgg, hK.eval hx, run_underlying ht, hf, part, h1, h2]
    exact e1

/-! Building: the zero value's cells, turned place by place. -/
inductive Fill (place : Nat → Option (Nat × Nat)) : List Value → List (Nat × Value) → List Value → Prop
  | nil {l : List Value} : Fill place l [] l
  | cons {l l' l'' vs : List Value} {i off size : Nat} {v : Value} {ps : List (Nat × Value)} : place i = some (off, size) → CellsR v vs → vs.length = size → Upd l off vs l' → Fill place l' ps l'' → Fill place l ((i, v) :: ps) l''
theorem foldl_set {vs : List Value} : ∀ {l l' : List Value} {off j : Nat}, Upd l (off + j) vs l' → (vs.zipIdx j).foldl (fun cs (x : Value × Nat) => cs.setIfInBounds (off + x.2) x.1) (Array.mk l) = Array.mk l' := by
  induction vs with
  | nil => intro l l' off j u; have := u.eq.2; simp at this; simp [this]
  | cons v vs ih =>
    intro l l' off j u
    simp only [List.zipIdx_cons, List.foldl_cons]
    have h1 : (Array.mk l).setIfInBounds (off + j) v = Array.mk (l.set (off + j) v) := by apply Array.ext'; simp
    rw [h1]
    exact ih (by have := u.next; rwa [Nat.add_assoc] at this)
theorem Fill.run {place : Nat → Option (Nat × Nat)} {l l' : List Value} {ps : List (Nat × Value)} (h : Fill place l ps l') : Instr.fill place ⟨l⟩ ps = some ⟨l'⟩ := by
  induction h with
  | nil => rfl
  | @cons l l' l'' vs i off size v ps hp hc hl hu _ ih =>
    obtain ⟨h1, h2⟩ := hu.eq
    have hce := hc.eq
    have hsz : v.cells.size = size := by rw [hce]; simpa using hl
    unfold Instr.fill
    rw [hp]
    have hcond : (decide (v.cells.size ≠ size) || decide (off + v.cells.size > (Array.mk l).size)) = false := by
      have : (Array.mk l).size = l.length := rfl
      have h3 : v.cells.size = vs.length := by rw [hce]; rfl
      simp [hsz]
      omega
    simp only [hcond]
    have hz : v.cells.zipIdx = (vs.zipIdx 0).toArray := by rw [hce]; simp
    rw [hz]
    have := foldl_set (vs := vs) (l := l) (l' := l') (off := off) (j := 0) (by simpa using hu)
    simp only [List.foldl_toArray'] at *
    simp only [Bool.false_eq_true, if_false]
    rw [this]
    exact ih


/-- Where the parts of a struct's or an array's value lie, and how many cells each takes. -/
def placeOf (P : Program) (t : TypeId) (i : Nat) : Option (Nat × Nat) :=
  match P.underlying t with
  | some (.struct fs) => match fs.toList[i]? with
    | some fd => (P.info? fd.type).map fun j => (fd.offset, j.size)
    | none => none
  | some (.array _ e) => (P.info? e).map fun j => (i * j.size, j.size)
  | _ => none
def evPs (K : List (Nat × Value)) : List (Nat × Operand) → Option (List (Nat × Value))
  | [] => some []
  | (i, x) :: xs => match evK K x with
    | some v => match evPs K xs with
      | some vs => some ((i, v) :: vs)
      | none => none
    | none => none
theorem Kn.evPs {N : Nat} {a : Act} (h : Kn N K a) : ∀ {xs : List (Nat × Operand)} {vs : List (Nat × Value)}, evPs K xs = some vs → xs.map (fun p => (p.1, a.eval p.2)) = vs
  | [], vs, e => by simp [SL.evPs] at e; simp [e]
  | (i, x) :: xs, vs, e => by
    simp only [SL.evPs] at e
    split at e
    · rename_i v hv
      split at e
      · rename_i us hus
        simp only [Option.some.injEq] at e
        subst e
        simp [h.eval hv, h.evPs hus]
      · cases e
    · cases e
/-- Each field's type has a row in the table. -/
def fieldsKnown (P : Program) (t : TypeId) : Bool :=
  match P.underlying t with
  | some (.struct fs) => fs.toList.all fun fd => (P.info? fd.type).isSome
  | some (.array _ e) => (P.info? e).isSome
  | _ => false
theorem run_places {P : Program} (w : World) : ∀ (fs : List Field), (fs.all fun fd => (P.info? fd.type).isSome) = true →
    (fs.mapM fun f => (do pure (f.offset, ← sizeOf f.type) : Sem (Nat × Nat))).run P w = .ok (fs.map fun f => (f.offset, P.cellsOf f.type)) w
  | [], _ => rfl
  | f :: fs, h => by
    simp only [List.all_cons, Bool.and_eq_true] at h
    obtain ⟨j, hj⟩ := Option.isSome_iff_exists.1 h.1
    have ih := run_places w fs h.2
    simp only [List.mapM_cons, Sem.run_bind, run_sizeOf hj, Result.andThen_ok, Sem.run_pure, ih, List.map_cons, Program.cellsOf, hj, Option.map_some, Option.getD_some]
theorem Op1.build {z : Value} {l l' : List Value} {ps : List (Nat × Operand)} {vs : List (Nat × Value)} (hz : (c.P.info? t).bind (·.zero) = some z) (hzl : CellsR z l) (hk : fieldsKnown c.P t = true)
    (hps : evPs K ps = some vs) (hf : Fill (placeOf c.P t) l vs l') : Op1 c ⟨d, .build t ps.toArray, ty, pos, af, gd⟩ K H (ret (.agg ⟨l'⟩) H) :=
  Op1.of_val (by simp) _ fun a w _ _ hK _ => by
    obtain ⟨i, hi, hz⟩ := Option.bind_eq_some_iff.1 hz
    have hp := hK.evPs hps
    have hr := hf.run
    have hzc := hzl.eq
    have hmap : Array.map (fun (x : Nat × Operand) => (x.1, a.eval x.2)) ps.toArray = vs.toArray := by rw [← hp]; simp
    unfold fieldsKnown at hk
    cases hu : c.P.underlying t with
    | none => simp [hu] at hk
    | some dd =>
      rw [hu] at hk
      cases dd with
      | struct fs =>
        have hpl : (fun j => (fs.map fun f => (f.offset, c.P.cellsOf f.type))[j]?) = placeOf c.P t := by
          funext j
          simp only [placeOf, hu, Array.getElem?_map]
          cases hfj : fs[j]? with
          | none => have : fs.toList[j]? = none := by simpa using hfj
                    simp [this]
          | some fd =>
            have h2 : fs.toList[j]? = some fd := by simpa using hfj
            have hm : fd ∈ fs.toList := List.mem_of_getElem? h2
            obtain ⟨q, hq⟩ := Option.isSome_iff_exists.1 (List.all_eq_true.1 hk fd hm)
            simp [h2, Program.cellsOf, hq]
        have hM : (fs.mapM fun f => (do pure (f.offset, ← sizeOf f.type) : Sem (Nat × Nat))).run c.P w = .ok (fs.map fun f => (f.offset, c.P.cellsOf f.type)) w := by
          rw [Array.mapM_eq_mapM_toList]
          have := run_places (P := c.P) w fs.toList hk
          simp only [Sem.run_map, this, Result.andThen_ok]
          congr 1
          apply Array.ext'
          simp
        simp only [execOp, Instr.build, Sem.run_bind, run_zeroValue hi hz, Result.andThen_ok, run_underlying hu, hM, hzc, hmap]
        rw [show (fun (x : Nat) => (Array.map (fun f => (f.offset, c.P.cellsOf f.type)) fs)[x]?) = placeOf c.P t from hpl]
        simp [hr]
      | array n e =>
        obtain ⟨q, hq⟩ := Option.isSome_iff_exists.1 hk
        have hpl : (fun j => some (j * q.size, q.size)) = placeOf c.P t := by
          funext j; simp [placeOf, hu, hq]
        simp only [execOp, Instr.build, Sem.run_bind, run_zeroValue hi hz, Result.andThen_ok, run_underlying hu, run_sizeOf hq, hzc, hmap]
        rw [hpl]
        simp [hr]
      | _ => simp at hk


/-! ### Comparisons with nil, and of addresses -/
theorem Op1.eqlPn {e : TypeId} {p : Option Addr} (ht : c.P.underlying t = some (.pointer e)) (hx : evK K x = some (.pointer p)) (hy : evK K y = some (.pointer none)) :
    Op1 c ⟨d, .binOp .eql t x y yt, ty, pos, af, gd⟩ K H (ret (.bool p.isNone) H) :=
  Op1.of_val (by simp) _ fun a w _ _ hK _ => by
    have hp : c.P.underlying t = some (.pointer (c.P.pointee t)) := by simp [Program.pointee, ht]
    simp [execOp, hK.eval hx, hK.eval hy, eqGuard_at_pointer, binOp, run_equal_pointer_nil _ _ _ hp]
theorem Op1.neqPn {e : TypeId} {p : Option Addr} (ht : c.P.underlying t = some (.pointer e)) (hx : evK K x = some (.pointer p)) (hy : evK K y = some (.pointer none)) :
    Op1 c ⟨d, .binOp .neq t x y yt, ty, pos, af, gd⟩ K H (ret (.bool (!p.isNone)) H) :=
  Op1.of_val (by simp) _ fun a w _ _ hK _ => by
    have hp : c.P.underlying t = some (.pointer (c.P.pointee t)) := by simp [Program.pointee, ht]
    simp [execOp, hK.eval hx, hK.eval hy, eqGuard_at_pointer, binOp, run_equal_pointer_nil _ _ _ hp]
theorem run_equal_chan {P : Program} {t e : TypeId} {dir : ChanDir} {p q : Option Nat} (ht : P.underlying t = some (.chan dir e)) (w : World) : (Op.equal t (.chan p) (.chan q)).run P w = .ok (p == q) w := by
  have h : ∀ d, (Op.equalIn (d + 1) t (.chan p) (.chan q)).run P w = .ok (p == q) w := fun d => by simp [Op.equalIn, run_underlying ht]
  exact h 9999
theorem Op1.eqlCn {e : TypeId} {dir : ChanDir} {p : Option Nat} (ht : c.P.underlying t = some (.chan dir e)) (hx : evK K x = some (.chan p)) (hy : evK K y = some (.chan none)) :
    Op1 c ⟨d, .binOp .eql t x y yt, ty, pos, af, gd⟩ K H (ret (.bool p.isNone) H) :=
  Op1.of_val (by simp) _ fun a w _ _ hK _ => by
    have e : (p == none) = p.isNone := by cases p <;> rfl
    simp [execOp, hK.eval hx, hK.eval hy, eqGuard_at_chan, binOp, run_equal_chan ht, e]
theorem Op1.eqlMn {k e : TypeId} {p : Option Nat} (ht : c.P.underlying t = some (.map k e)) (hx : evK K x = some (.map p)) (hy : evK K y = some (.map none)) :
    Op1 c ⟨d, .binOp .eql t x y yt, ty, pos, af, gd⟩ K H (ret (.bool p.isNone) H) :=
  Op1.of_val (by simp) _ fun a w _ _ hK _ => by
    simp [execOp, hK.eval hx, hK.eval hy, eqGuard_at_map, binOp, run_equal_map_nil _ _ _ _ _ ht]
theorem Op1.eqlLn {e : TypeId} {p : Option Addr} {n m : Nat} (ht : c.P.underlying t = some (.slice e)) (hx : evK K x = some (.slice p n m)) (hy : evK K y = some (.slice none 0 0)) :
    Op1 c ⟨d, .binOp .eql t x y yt, ty, pos, af, gd⟩ K H (ret (.bool p.isNone) H) :=
  Op1.of_val (by simp) _ fun a w _ _ hK _ => by
    simp [execOp, hK.eval hx, hK.eval hy, eqGuard_at_slice, binOp, run_equal_slice_nil _ _ _ _ _ _ ht]

/-! ### Slices -/
theorem Op1.indexAddr {k : IntKind} {i : Int} {b off n m s : Nat} {e : TypeId} (ht : c.P.underlying t = some (.slice e)) (hs : (c.P.info? e).map (·.size) = some s) (hx : evK K x = some (.slice (some ⟨b, off, none⟩) n m))
    (hy : evK K y = some (.int k i)) (h0 : 0 ≤ i) (h1 : i < n) : Op1 c ⟨d, .indexAddr t x y, ty, pos, af, gd⟩ K H (ret (.pointer (some ⟨b, off + i.toNat * s, none⟩)) H) :=
  Op1.of_val (by simp) _ fun a w _ _ hK _ => by
    obtain ⟨j, hj, rfl⟩ := Option.map_eq_some_iff.1 hs
    simp [execOp, Instr.indexAt, asIntOf, hK.eval hx, hK.eval hy, run_underlying ht, h0, h1, run_sizeOf hj, Addr.add_lit]
/-- The address of an array's element, the array in memory. -/
theorem Op1.indexAddrA {k : IntKind} {i : Int} {b off n s : Nat} {e : TypeId} (ht : c.P.underlying t = some (.array n e)) (hs : (c.P.info? e).map (·.size) = some s) (hx : evK K x = some (.pointer (some ⟨b, off, none⟩)))
    (hy : evK K y = some (.int k i)) (h0 : 0 ≤ i) (h1 : i < n) : Op1 c ⟨d, .indexAddr t x y, ty, pos, af, gd⟩ K H (ret (.pointer (some ⟨b, off + i.toNat * s, none⟩)) H) :=
  Op1.of_val (by simp) _ fun a w _ _ hK _ => by
    obtain ⟨j, hj, rfl⟩ := Option.map_eq_some_iff.1 hs
    simp [execOp, Instr.indexAt, Instr.sureAddr, asIntOf, hK.eval hx, hK.eval hy, run_underlying ht, h0, h1, run_sizeOf hj, Addr.add_lit]

/-- A slice's bounds: its low and high end. -/
theorem run_bounds {P : Program} {isS : Bool} {len cap : Nat} {lo hi : Option Value} {l h : Nat}
    (hlo : (lo = none ∧ l = 0) ∨ ∃ k, lo = some (.int k l)) (hhi : (hi = none ∧ h = len) ∨ ∃ k, hi = some (.int k h)) (h1 : l ≤ h) (h2 : h ≤ cap) (w : World) :
    (Instr.sliceBounds isS len cap lo hi none).run P w = .ok (l, h, cap) w := by
  have hb : ∀ (k : IntKind) (i y : Nat) (code : BoundsCode), i ≤ y → (Instr.sliceBound (.int k (i : Int)) y code).run P w = .ok i w := by
    intro k i y code hi
    simp [Instr.sliceBound, asIntOf, hi]
  rcases hlo with ⟨rfl, rfl⟩ | ⟨k, rfl⟩ <;> rcases hhi with ⟨rfl, rfl⟩ | ⟨k', rfl⟩ <;> simp [Instr.sliceBounds, hb, h1, h2]
/-- Where a bound stands: none given; or a number. -/
def bndK (K : List (Nat × Value)) (dflt : Int) : Option Operand → Option Int
  | none => some dflt
  | some x => match evK K x with
    | some (.int _ n) => some n
    | _ => none
theorem bnd_lo {a : Act} {N : Nat} (hK : Kn N K a) {lo : Option Operand} {l : Int} (h : bndK K 0 lo = some l) (h0 : 0 ≤ l) :
    (lo.map a.eval = none ∧ l.toNat = 0) ∨ ∃ k, lo.map a.eval = some (.int k l.toNat) := by
  cases lo with
  | none => simp [bndK] at h; subst h; exact .inl ⟨rfl, rfl⟩
  | some x =>
    simp only [bndK] at h
    split at h
    · rename_i k n hx
      simp only [Option.some.injEq] at h
      subst h
      exact .inr ⟨k, by simp [hK.eval hx, Int.toNat_of_nonneg h0]⟩
    · cases h
theorem bnd_hi {a : Act} {N : Nat} (hK : Kn N K a) {hi : Option Operand} {n : Nat} {l : Int} (h : bndK K n hi = some l) (h0 : 0 ≤ l) :
    (hi.map a.eval = none ∧ l.toNat = n) ∨ ∃ k, hi.map a.eval = some (.int k l.toNat) := by
  cases hi with
  | none => simp [bndK] at h; subst h; exact .inl ⟨rfl, by simp⟩
  | some x =>
    simp only [bndK] at h
    split at h
    · rename_i k n hx
      simp only [Option.some.injEq] at h
      subst h
      exact .inr ⟨k, by simp [hK.eval hx, Int.toNat_of_nonneg h0]⟩
    · cases h
theorem Op1.sliceS {s : ByteArray} {lo hi : Option Operand} {l h : Int} (ht : c.P.underlying t = some .string) (hx : evK K x = some (.string s)) (hlo : bndK K 0 lo = some l) (hhi : bndK K s.size hi = some h)
    (h0 : 0 ≤ l) (h1 : l ≤ h) (h2 : h ≤ s.size) : Op1 c ⟨d, .slice t x lo hi none, ty, pos, af, gd⟩ K H (ret (.string (s.extract l.toNat h.toNat)) H) :=
  Op1.of_val (by simp) _ fun a w _ _ hK _ => by
    have hb := run_bounds (P := c.P) (isS := false) (cap := s.size) (bnd_lo hK hlo h0) (bnd_hi hK hhi (by omega)) (by omega) (by omega) w
    simp only [execOp, Instr.sliceAt, Sem.run_bind, run_underlying ht, Result.andThen_ok, Instr.slice, hK.eval hx, Option.map_none]
    simp [hb]
/-- What a slice expression makes of a slice. -/
def cut (p : Option Addr) (l h m s : Nat) : Value := .slice (if m = l then p else p.map (·.add (l * s))) (h - l) (m - l)
theorem Op1.sliceL {e : TypeId} {p : Option Addr} {n m s : Nat} {lo hi : Option Operand} {l h : Int} (ht : c.P.underlying t = some (.slice e)) (hs : (c.P.info? e).map (·.size) = some s) (hx : evK K x = some (.slice p n m))
    (hlo : bndK K 0 lo = some l) (hhi : bndK K n hi = some h) (h0 : 0 ≤ l) (h1 : l ≤ h) (h2 : h ≤ m) : Op1 c ⟨d, .slice t x lo hi none, ty, pos, af, gd⟩ K H (ret (cut p l.toNat h.toNat m s) H) :=
  Op1.of_val (by simp) _ fun a w _ _ hK _ => by
    obtain ⟨j, hj, rfl⟩ := Option.map_eq_some_iff.1 hs
    have hb := run_bounds (P := c.P) (isS := true) (cap := m) (bnd_lo hK hlo h0) (bnd_hi hK hhi (by omega)) (by omega) (by omega) w
    simp only [execOp, Instr.sliceAt, Sem.run_bind, run_underlying ht, Result.andThen_ok, Instr.slice, hK.eval hx, Option.map_none, hb, run_sizeOf hj]
    rfl
/-- 'a[:]', a an array in memory. -/
theorem Op1.sliceA {e : TypeId} {b off n s : Nat} {lo hi : Option Operand} {l h : Int} (ht : c.P.underlying t = some (.array n e)) (hs : (c.P.info? e).map (·.size) = some s) (hx : evK K x = some (.pointer (some ⟨b, off, none⟩)))
    (hlo : bndK K 0 lo = some l) (hhi : bndK K n hi = some h) (h0 : 0 ≤ l) (h1 : l ≤ h) (h2 : h ≤ n) : Op1 c ⟨d, .slice t x lo hi none, ty, pos, af, gd⟩ K H (ret (cut (some ⟨b, off, none⟩) l.toNat h.toNat n s) H) :=
  Op1.of_val (by simp) _ fun a w _ _ hK _ => by
    obtain ⟨j, hj, rfl⟩ := Option.map_eq_some_iff.1 hs
    have hb := run_bounds (P := c.P) (isS := false) (cap := n) (bnd_lo hK hlo h0) (bnd_hi hK hhi (by omega)) (by omega) (by omega) w
    simp only [execOp, Instr.sliceAt, Sem.run_bind, run_underlying ht, Result.andThen_ok, Instr.sureAddr, Sem.run_pure, hK.eval hx, Option.map_none, hb, run_sizeOf hj]
    simp only [cut]
    split <;> simp

end Go.SL
