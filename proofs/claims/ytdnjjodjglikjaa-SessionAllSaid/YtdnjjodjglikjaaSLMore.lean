/- Results, guards that split, calls that only compute: more rules of the judgement. No program is named here; the conditions stand in each rule. -/
import Derived.Test.YtdnjjodjglikjaaSLOps
namespace Go.SL
open Go

variable {c : Cx} {K : List (Nat × Value)} {H : List Atom} {k : List Item}

/-! ### Results -/
theorem res0 (h : c.func.results = #[]) : ∀ (a : Act) (w : World) (hx hr : Hp), Kn c.func.ntmps K a → G w H hx hr → (results c.func a.tmps).run c.P w = .ok (.tuple #[]) w :=
  fun a w _ _ _ _ => by simp [results, h]
theorem res1 {t : Nat} {v : Value} (h : c.func.results = #[.tmp t]) (hl : look K t = some v) : ∀ (a : Act) (w : World) (hx hr : Hp), Kn c.func.ntmps K a → G w H hx hr → (results c.func a.tmps).run c.P w = .ok v w :=
  fun a w _ _ hK _ => by
    have := hK.2 _ _ hl
    simp [results, h, Array.getD_eq_getD_getElem?, this]
theorem res2 {t t' : Nat} {v v' : Value} (h : c.func.results = #[.tmp t, .tmp t']) (hl : look K t = some v) (hl' : look K t' = some v') :
    ∀ (a : Act) (w : World) (hx hr : Hp), Kn c.func.ntmps K a → G w H hx hr → (results c.func a.tmps).run c.P w = .ok (.tuple #[v, v']) w :=
  fun a w _ _ hK _ => by
    have := hK.2 _ _ hl
    have := hK.2 _ _ hl'
    simp [results, Array.getD_eq_getD_getElem?, *]
theorem res3 {t t' t'' : Nat} {v v' v'' : Value} (h : c.func.results = #[.tmp t, .tmp t', .tmp t'']) (hl : look K t = some v) (hl' : look K t' = some v') (hl'' : look K t'' = some v'') :
    ∀ (a : Act) (w : World) (hx hr : Hp), Kn c.func.ntmps K a → G w H hx hr → (results c.func a.tmps).run c.P w = .ok (.tuple #[v, v', v'']) w :=
  fun a w _ _ hK _ => by
    have := hK.2 _ _ hl
    have := hK.2 _ _ hl'
    have := hK.2 _ _ hl''
    simp [results, Array.getD_eq_getD_getElem?, *]
/-- A result that lies in a block of its own. -/
theorem run_cell_res {P : Program} {w : World} {b n : Nat} {l : List Value} {e : TypeId} {fz : Nat × Nat} {t : TypeId} (hs : cellsIf P t = some n) (hn : l.length = n) (hw : w.heap[b]? = some (.cells ⟨l⟩ e fz)) :
    (loadVar t ⟨b, 0, none⟩).run P w = .ok (.agg ⟨l⟩) w := by
  obtain ⟨h1, h2⟩ := run_cellsIf hs w
  have := run_cells_at (P := P) (off := 0) (n := n) (vs := l) hw (by simp [← hn]) hn
  simp [loadVar, h1, h2, this]
theorem resC1 {t b n : Nat} {l : List Value} {e : TypeId} {fz : Nat × Nat} {tt : TypeId} (h : c.func.results = #[.cell t tt]) (hl : look K t = some (.pointer (some ⟨b, 0, none⟩))) (hs : cellsIf c.P tt = some n)
    (hb : Has b (.cells ⟨l⟩ e fz) H) (hn : l.length = n) :
    ∀ (a : Act) (w : World) (hx hr : Hp), Kn c.func.ntmps K a → G w H hx hr → (results c.func a.tmps).run c.P w = .ok (.agg ⟨l⟩) w :=
  fun a w _ _ hK hG => by
    have := hK.2 _ _ hl
    have := run_cell_res (P := c.P) hs hn (hG.has hb)
    simp [results, Array.getD_eq_getD_getElem?, asAddr, *]
theorem resC2 {t t' b n : Nat} {l : List Value} {e : TypeId} {fz : Nat × Nat} {tt : TypeId} {v : Value} (h : c.func.results = #[.cell t tt, .tmp t']) (hl : look K t = some (.pointer (some ⟨b, 0, none⟩))) (hs : cellsIf c.P tt = some n)
    (hb : Has b (.cells ⟨l⟩ e fz) H) (hn : l.length = n) (hl' : look K t' = some v) :
    ∀ (a : Act) (w : World) (hx hr : Hp), Kn c.func.ntmps K a → G w H hx hr → (results c.func a.tmps).run c.P w = .ok (.tuple #[.agg ⟨l⟩, v]) w :=
  fun a w _ _ hK hG => by
    have := hK.2 _ _ hl
    have := hK.2 _ _ hl'
    have := run_cell_res (P := c.P) hs hn (hG.has hb)
    simp [results, Array.getD_eq_getD_getElem?, asAddr, *]
theorem resC3 {t t' t'' b n : Nat} {l : List Value} {e : TypeId} {fz : Nat × Nat} {tt : TypeId} {v v' : Value} (h : c.func.results = #[.cell t tt, .tmp t', .tmp t'']) (hl : look K t = some (.pointer (some ⟨b, 0, none⟩))) (hs : cellsIf c.P tt = some n)
    (hb : Has b (.cells ⟨l⟩ e fz) H) (hn : l.length = n) (hl' : look K t' = some v) (hl'' : look K t'' = some v') :
    ∀ (a : Act) (w : World) (hx hr : Hp), Kn c.func.ntmps K a → G w H hx hr → (results c.func a.tmps).run c.P w = .ok (.tuple #[.agg ⟨l⟩, v, v']) w :=
  fun a w _ _ hK hG => by
    have := hK.2 _ _ hl
    have := hK.2 _ _ hl'
    have := hK.2 _ _ hl''
    have := run_cell_res (P := c.P) hs hn (hG.has hb)
    simp [results, Array.getD_eq_getD_getElem?, asAddr, *]
theorem resCC3 {t t' t'' b n b' n' : Nat} {l l' : List Value} {e e' : TypeId} {fz fz' : Nat × Nat} {tt tt' : TypeId} {v' : Value} (h : c.func.results = #[.cell t tt, .cell t' tt', .tmp t'']) (hl : look K t = some (.pointer (some ⟨b, 0, none⟩))) (hs : cellsIf c.P tt = some n)
    (hb : Has b (.cells ⟨l⟩ e fz) H) (hn : l.length = n) (hl' : look K t' = some (.pointer (some ⟨b', 0, none⟩))) (hs' : cellsIf c.P tt' = some n')
    (hb' : Has b' (.cells ⟨l'⟩ e' fz') H) (hn' : l'.length = n') (hl'' : look K t'' = some v') :
    ∀ (a : Act) (w : World) (hx hr : Hp), Kn c.func.ntmps K a → G w H hx hr → (results c.func a.tmps).run c.P w = .ok (.tuple #[.agg ⟨l⟩, .agg ⟨l'⟩, v']) w :=
  fun a w _ _ hK hG => by
    have := hK.2 _ _ hl
    have := hK.2 _ _ hl'
    have := hK.2 _ _ hl''
    have := run_cell_res (P := c.P) hs hn (hG.has hb)
    have := run_cell_res (P := c.P) hs' hn' (hG.has hb')
    simp [results, Array.getD_eq_getD_getElem?, asAddr, *]

/-! ### A slot's bool is parted on -/
theorem Kn.bool {N : Nat} {a : Act} (h : Kn N K a) {d : Nat} {b b' : Bool} (e : look K d = some (.bool b)) (hb : b = b') : Kn N ((d, .bool b') :: K) a := by
  subst hb
  refine ⟨h.1, fun t v e' => ?_⟩
  rw [look_cons] at e'
  by_cases hd : d = t
  · subst hd; rw [if_pos rfl] at e'
    rw [h.2 _ _ e]; exact e'
  · rw [if_neg hd] at e'; exact h.2 _ _ e'
theorem T.bool {d : Nat} {b : Bool} {t : List Item} (e : look K d = some (.bool b)) (h1 : b = true → T c t ((d, .bool true) :: K) H) (h0 : b = false → T c t ((d, .bool false) :: K) H) : T c t K H := by
  intro fr a cs w hx hr g0 g1 g2 g3 g4 g5 g6 g7
  cases hb : b with
  | true => exact h1 hb fr a cs w hx hr g0 g1 g2 g3 g4 g5 (g6.bool e hb) g7
  | false => exact h0 hb fr a cs w hx hr g0 g1 g2 g3 g4 g5 (g6.bool e hb) g7
def guardSlot (ops : List Oper) (o : Oper) : Option Nat :=
  match o.guard with
  | none => none
  | some (j, _) => match ops[j]? with
    | some p => p.dst
    | none => none
theorem TR.split {ops l : List Oper} {o : Oper} {d : Nat} {b : Bool} (_ : guardSlot ops o = some d) (e : look K d = some (.bool b))
    (h1 : b = true → TR c ops (o :: l) k ((d, .bool true) :: K) H) (h0 : b = false → TR c ops (o :: l) k ((d, .bool false) :: K) H) : TR c ops (o :: l) k K H :=
  fun n hn => T.bool e (fun hb => h1 hb n hn) (fun hb => h0 hb n hn)
theorem TR.known {ops l : List Oper} {o : Oper} {x : Bool} (_ : wants ops K o = some x) (_ : x = true) (h : TR c ops (o :: l) k K H) : TR c ops (o :: l) k K H := h
theorem TR.bool {ops l : List Oper} {d : Nat} {b : Bool} (e : look K d = some (.bool b))
    (h1 : b = true → TR c ops l k ((d, .bool true) :: K) H) (h0 : b = false → TR c ops l k ((d, .bool false) :: K) H) : TR c ops l k K H :=
  fun n hn => T.bool e (fun hb => h1 hb n hn) (fun hb => h0 hb n hn)

/-! ### What kind of an operation it is -/
theorem Op1.isCallF (n : Nat) {d : Option Tmp} {args : Array Operand} {at_ : Array TypeId} {ty : TypeId} {pos : String} {af : Array Edge} {gd : Option (Nat × Bool)} {Q : Value → List Atom → Prop}
    (h : Op1 c ⟨d, .call ⟨.value (.func n), args, at_⟩, ty, pos, af, gd⟩ K H Q) : Op1 c ⟨d, .call ⟨.value (.func n), args, at_⟩, ty, pos, af, gd⟩ K H Q := h
theorem Op1.isCallT (n : Nat) {d : Option Tmp} {args : Array Operand} {at_ : Array TypeId} {ty : TypeId} {pos : String} {af : Array Edge} {gd : Option (Nat × Bool)} {Q : Value → List Atom → Prop}
    (h : Op1 c ⟨d, .call ⟨.value (.tmp n), args, at_⟩, ty, pos, af, gd⟩ K H Q) : Op1 c ⟨d, .call ⟨.value (.tmp n), args, at_⟩, ty, pos, af, gd⟩ K H Q := h
theorem Op1.isLoad {d : Option Tmp} {t : TypeId} {x : Operand} {ty : TypeId} {pos : String} {af : Array Edge} {gd : Option (Nat × Bool)} {Q : Value → List Atom → Prop}
    (h : Op1 c ⟨d, .load t x, ty, pos, af, gd⟩ K H Q) : Op1 c ⟨d, .load t x, ty, pos, af, gd⟩ K H Q := h
theorem Op1.isBin (o : BinOp) {d : Option Tmp} {t yt : TypeId} {x y : Operand} {ty : TypeId} {pos : String} {af : Array Edge} {gd : Option (Nat × Bool)} {Q : Value → List Atom → Prop}
    (h : Op1 c ⟨d, .binOp o t x y yt, ty, pos, af, gd⟩ K H Q) : Op1 c ⟨d, .binOp o t x y yt, ty, pos, af, gd⟩ K H Q := h
theorem Op1.isBuiltin (o : Builtin) {d : Option Tmp} {args : Array Operand} {at_ : Array TypeId} {ty : TypeId} {pos : String} {af : Array Edge} {gd : Option (Nat × Bool)} {Q : Value → List Atom → Prop}
    (h : Op1 c ⟨d, .call ⟨.builtin o, args, at_⟩, ty, pos, af, gd⟩ K H Q) : Op1 c ⟨d, .call ⟨.builtin o, args, at_⟩, ty, pos, af, gd⟩ K H Q := h
theorem Op1.isIdxAddr  {d : Option Tmp} {t : TypeId} {x y : Operand} {ty : TypeId} {pos : String} {af : Array Edge} {gd : Option (Nat × Bool)} {Q : Value → List Atom → Prop}
    (h : Op1 c ⟨d, .indexAddr t x y, ty, pos, af, gd⟩ K H Q) : Op1 c ⟨d, .indexAddr t x y, ty, pos, af, gd⟩ K H Q := h
theorem Op1.isIndex  {d : Option Tmp} {t : TypeId} {x y : Operand} {ty : TypeId} {pos : String} {af : Array Edge} {gd : Option (Nat × Bool)} {Q : Value → List Atom → Prop}
    (h : Op1 c ⟨d, .index t x y, ty, pos, af, gd⟩ K H Q) : Op1 c ⟨d, .index t x y, ty, pos, af, gd⟩ K H Q := h
theorem Op1.isBuild  {d : Option Tmp} {t : TypeId} {ps : Array (Nat × Operand)} {ty : TypeId} {pos : String} {af : Array Edge} {gd : Option (Nat × Bool)} {Q : Value → List Atom → Prop}
    (h : Op1 c ⟨d, .build t ps, ty, pos, af, gd⟩ K H Q) : Op1 c ⟨d, .build t ps, ty, pos, af, gd⟩ K H Q := h
theorem Op1.isSlice  {d : Option Tmp} {t : TypeId} {x : Operand} {a b e : Option Operand} {ty : TypeId} {pos : String} {af : Array Edge} {gd : Option (Nat × Bool)} {Q : Value → List Atom → Prop}
    (h : Op1 c ⟨d, .slice t x a b e, ty, pos, af, gd⟩ K H Q) : Op1 c ⟨d, .slice t x a b e, ty, pos, af, gd⟩ K H Q := h
theorem Op1.isStore  {d : Option Tmp} {t : TypeId} {x y : Operand} {ty : TypeId} {pos : String} {af : Array Edge} {gd : Option (Nat × Bool)} {Q : Value → List Atom → Prop}
    (h : Op1 c ⟨d, .store t x y, ty, pos, af, gd⟩ K H Q) : Op1 c ⟨d, .store t x y, ty, pos, af, gd⟩ K H Q := h
theorem TR.callF (n : Nat) {ops l : List Oper} {d : Option Tmp} {args : Array Operand} {at_ : Array TypeId} {ty : TypeId} {pos : String} {af : Array Edge} {gd : Option (Nat × Bool)}
    (h : TR c ops (⟨d, .call ⟨.value (.func n), args, at_⟩, ty, pos, af, gd⟩ :: l) k K H) : TR c ops (⟨d, .call ⟨.value (.func n), args, at_⟩, ty, pos, af, gd⟩ :: l) k K H := h
theorem TR.callT (n : Nat) {ops l : List Oper} {d : Option Tmp} {args : Array Operand} {at_ : Array TypeId} {ty : TypeId} {pos : String} {af : Array Edge} {gd : Option (Nat × Bool)}
    (h : TR c ops (⟨d, .call ⟨.value (.tmp n), args, at_⟩, ty, pos, af, gd⟩ :: l) k K H) : TR c ops (⟨d, .call ⟨.value (.tmp n), args, at_⟩, ty, pos, af, gd⟩ :: l) k K H := h

/-! ### A function that only computes -/
abbrev Fun (P : Program) (f : FuncId) (args : Array Value) (v : Value) : Prop := Tri P f args [] (ret v [])
theorem Op1.callv {d : Option Tmp} {g : Operand} {args : List Operand} {at_ : Array TypeId} {ty : TypeId} {pos : String} {af : Array Edge} {gd : Option (Nat × Bool)}
    {f : FuncId} {first captured vs : List Value} {v : Value}
    (hg : evK K g = some (.func (.func f) first.toArray captured.toArray)) (ha : evKs K args = some vs)
    (t : Fun c.P f (first ++ vs ++ captured).toArray v) :
    Op1 c ⟨d, .call ⟨.value g, args.toArray, at_⟩, ty, pos, af, gd⟩ K H (ret v H) :=
  (Op1.call hg ha t Split.nil).mono fun _ _ ⟨_, ⟨e1, e2⟩, e3⟩ => ⟨e1, by rw [e3, e2]; rfl⟩
/-- A call whose contract tells just one value and one memory. -/
theorem Op1.callr {d : Option Tmp} {g : Operand} {args : List Operand} {at_ : Array TypeId} {ty : TypeId} {pos : String} {af : Array Edge} {gd : Option (Nat × Bool)}
    {f : FuncId} {first captured vs : List Value} {v : Value} {Pre H1 F : List Atom}
    (hg : evK K g = some (.func (.func f) first.toArray captured.toArray)) (ha : evKs K args = some vs)
    (t : Tri c.P f (first ++ vs ++ captured).toArray Pre (ret v H1)) (p : Split H Pre F) :
    Op1 c ⟨d, .call ⟨.value g, args.toArray, at_⟩, ty, pos, af, gd⟩ K H (ret v (H1 ++ F)) :=
  (Op1.call hg ha t p).mono fun _ _ ⟨_, ⟨e1, e2⟩, e3⟩ => ⟨e1, by rw [e3, e2]⟩
/-- Atoms taken out of a list. -/
inductive Take : List Atom → List Atom → List Atom → Prop
  | nil {H : List Atom} : Take H [] H
  | cons {A : Atom} {H H1 Pre F : List Atom} : Pick A H H1 → Take H1 Pre F → Take H (A :: Pre) F
theorem Take.perm {H Pre F : List Atom} (p : Take H Pre F) : H.Perm (Pre ++ F) := by
  induction p with
  | nil => exact .refl _
  | cons p _ ih => exact p.perm.trans (ih.cons _)
theorem Take.split {H Pre F : List Atom} (p : Take H Pre F) : Split H Pre F := by
  induction p with
  | nil => exact .nil
  | cons p _ ih => exact .own p ih
/-- A call that leaves memory as it was. -/
theorem Op1.callk {d : Option Tmp} {g : Operand} {args : List Operand} {at_ : Array TypeId} {ty : TypeId} {pos : String} {af : Array Edge} {gd : Option (Nat × Bool)}
    {f : FuncId} {first captured vs : List Value} {v : Value} {Pre F : List Atom}
    (hg : evK K g = some (.func (.func f) first.toArray captured.toArray)) (ha : evKs K args = some vs)
    (t : Tri c.P f (first ++ vs ++ captured).toArray Pre (ret v Pre)) (p : Take H Pre F) :
    Op1 c ⟨d, .call ⟨.value g, args.toArray, at_⟩, ty, pos, af, gd⟩ K H (ret v H) := by
  intro ops b a cs k rest i w hx hr ho hw hk hro hK hG
  obtain ⟨v', w', H', hx', hr', ⟨rfl, rfl⟩, g', st, s⟩ := Op1.callr (d := d) (ty := ty) (pos := pos) (af := af) (gd := gd) (at_ := at_) hg ha t p.split ops b a cs k rest i w hx hr ho hw hk hro hK hG
  exact ⟨v', w', H, hx', hr', ⟨rfl, rfl⟩, ⟨g'.sat.perm p.perm.symm, g'.own, g'.red, g'.dj⟩, st, s⟩
theorem Fun.beside {P : Program} {f : FuncId} {args : Array Value} {v : Value} (h : Fun P f args v) : Tri P f args H (ret v H) := by
  refine ⟨h.1, fun w hx hr g => ?_⟩
  obtain ⟨h1, h2, j, g', s⟩ := g.split (Split.nil (H := H))
  refine (h.2 w h1 hr g').mono ?_
  rintro e w' ⟨v', H', hx', hr', rfl, ⟨rfl, rfl⟩, g2, st⟩
  obtain ⟨hx2, g3, st2⟩ := G.frame j g.own g.dj st g2 s
  exact ⟨_, _, hx2, hr', rfl, ⟨rfl, rfl⟩, g3, st2⟩


end Go.SL
