/- Arguments of a law: slices of whatever struct, structs, bools: as lists of values that are only read. No program is named here; the conditions stand in each lemma. -/
import Derived.Test.YtdnjjodjglikjaaSLLift
import Derived.Test.YtdnjjodjglikjaaSLOwn
import Derived.Deep.Slices
namespace Go.SL
open Go Go.ChangeShapes Go.WideShapes Go.ChangeAt Go.RowKit

/-- What reads as data of type t is f a, and Q a holds. -/
def Opn (P : Program) (t : TypeId) {α : Type} (f : α → List Value) (Q : α → Prop) : Prop :=
  ∀ {H : Type} (enc : TypeId × Value → H) (w : World) (sp : Nat → Bool) (held : Bool) (fuel : Nat) (cs : List Value) (x : DataW H × List MemPlace), DataW.trod enc P w 0 sp held fuel t cs = some x → ∃ a, cs = f a ∧ Q a

def InK (k : IntKind) (n : Int) : Prop := k.min ≤ n ∧ n ≤ k.max
theorem InK.i64 {n : Int} (h : InK .i64 n) : -9223372036854775808 ≤ n ∧ n ≤ 9223372036854775807 := h
theorem InK.wf {k : IntKind} {n : Int} (h : (Lit.int k n).wf = true) : InK k n := by
  simp only [Lit.wf, Bool.and_eq_true, decide_eq_true_eq] at h
  exact h
theorem Opn.int {P : Program} {t : TypeId} {k : IntKind} (ht : P.underlying t = some (.int k)) : Opn P t (fun n : Int => [.int k n]) (InK k) := by
  intro H enc w sp held fuel cs x h
  obtain ⟨n, rfl, _, hw⟩ := DataW.trod_int ht h
  exact ⟨n, rfl, InK.wf hw⟩
theorem Opn.str {P : Program} {t : TypeId} (ht : P.underlying t = some .string) : Opn P t (fun s : ByteArray => [.string s]) (fun s => s.size ≤ Go.maxLen) := by
  intro H enc w sp held fuel cs x h
  obtain ⟨s, rfl, _, hw⟩ := DataW.trod_string ht h
  exact ⟨s, rfl, hw⟩
theorem Opn.bool {P : Program} {t : TypeId} (ht : P.underlying t = some .bool) : Opn P t (fun b : Bool => [.bool b]) (fun _ => True) := by
  intro H enc w sp held fuel cs x h
  obtain ⟨b, rfl, _⟩ := DataW.trod_bool ht h
  exact ⟨b, rfl, trivial⟩
theorem Opn.u8 {P : Program} {t : TypeId} (ht : P.underlying t = some (.int .u8)) : Opn P t encU8.f (fun _ => True) := by
  intro H enc w sp held fuel cs x h
  obtain ⟨n, rfl, _, hw⟩ := DataW.trod_int ht h
  have hk := InK.wf hw
  have h0 : 0 ≤ n ∧ n ≤ 255 := hk
  refine ⟨UInt8.ofNat n.toNat, ?_, trivial⟩
  have : ((n.toNat % 256 : Nat) : Int) = n := by omega
  simp [encU8, this]
theorem Opn.mono {P : Program} {t : TypeId} {α : Type} {f : α → List Value} {Q Q' : α → Prop} (h : Opn P t f Q) (hq : ∀ a, Q a → Q' a) : Opn P t f Q' :=
  fun enc w sp held fuel cs x e => let ⟨a, h1, h2⟩ := h enc w sp held fuel cs x e; ⟨a, h1, hq a h2⟩

/-- Fields, one behind the other: their types and how many cells each takes. -/
def fieldsAt (P : Program) : List Field → Nat → Bool
  | [], _ => true
  | f :: fs, n => Nat.beq f.offset n && fieldsAt P fs (n + P.cellsOf f.type)
/-- What reads as all of the fields. -/
def OpnF (P : Program) (fs : List Field) {α : Type} (f : α → List Value) (Q : α → Prop) : Prop :=
  ∀ {H : Type} (enc : TypeId × Value → H) (w : World) (sp : Nat → Bool) (held : Bool) (fuel n : Nat) (cs : List Value), fieldsAt P fs n = true →
    (∀ g ∈ fs, ∃ x, DataW.trod enc P w 0 sp held fuel g.type ((cs.drop g.offset).take (P.cellsOf g.type)) = some x) → cs.length = n + (fs.map fun g => P.cellsOf g.type).sum → ∃ a, cs.drop n = f a ∧ Q a
theorem OpnF.nil {P : Program} : OpnF P [] (fun _ : Unit => []) (fun _ => True) := by
  intro H enc w sp held fuel n cs _ _ hl
  exact ⟨(), by simp at hl; simp [← hl], trivial⟩
theorem OpnF.cons {P : Program} {g : Field} {fs : List Field} {α β : Type} {f : α → List Value} {Q : α → Prop} {f' : β → List Value} {Q' : β → Prop} (h : Opn P g.type f Q) (h' : OpnF P fs f' Q') :
    OpnF P (g :: fs) (fun x : α × β => f x.1 ++ f' x.2) (fun x => Q x.1 ∧ Q' x.2) := by
  intro H enc w sp held fuel n cs hat hx hl
  simp only [fieldsAt, Bool.and_eq_true] at hat
  have ho : g.offset = n := Nat.eq_of_beq_eq_true hat.1
  obtain ⟨x, hx0⟩ := hx g (by simp)
  obtain ⟨a, e1, q1⟩ := h enc w sp held fuel _ x hx0
  simp only [List.map_cons, List.sum_cons] at hl
  obtain ⟨b, e2, q2⟩ := h' enc w sp held fuel (n + P.cellsOf g.type) cs hat.2 (fun g' hg' => hx g' (by simp [hg'])) (by omega)
  refine ⟨(a, b), ?_, q1, q2⟩
  simp only
  rw [← e1, ← e2, ho, ← List.drop_drop]
  exact (List.take_append_drop _ _).symm
theorem Opn.struct {P : Program} {t : TypeId} {fs : List Field} {α : Type} {f : α → List Value} {Q : α → Prop} (ht : P.underlying t = some (.struct fs.toArray)) (hat : fieldsAt P fs 0 = true)
    (hc : P.cellsOf t = (fs.map fun g => P.cellsOf g.type).sum) (h : OpnF P fs f Q) : Opn P t f Q := by
  intro H enc w sp held fuel cs x hx
  obtain ⟨xs, k, rfl, _, hl, hxl, hf⟩ := DataW.trod_struct ht hx
  obtain ⟨a, e, q⟩ := h enc w sp held k 0 cs hat (fun g hg => by
    obtain ⟨i, hi⟩ := List.mem_iff_getElem?.1 hg
    have := hf i g (by simpa using hi)
    have hlt : i < xs.length := by
      have := (List.getElem?_eq_some_iff.1 hi).1
      rw [hxl]; simpa using this
    exact ⟨xs[i], by rw [this]; simp [hlt]⟩) (by rw [hl, hc]; simp)
  exact ⟨a, by simpa using e, q⟩
/-- The same, told by another form. -/
theorem Opn.as {P : Program} {t : TypeId} {α β : Type} {f : α → List Value} {Q : α → Prop} {f' : β → List Value} {Q' : β → Prop} (h : Opn P t f Q) (g : α → β) (he : ∀ a, f a = f' (g a)) (hq : ∀ a, Q a → Q' (g a)) : Opn P t f' Q' :=
  fun enc w sp held fuel cs x e => let ⟨a, h1, h2⟩ := h enc w sp held fuel cs x e; ⟨g a, h1.trans (he a), hq a h2⟩

theorem open_arr {H : Type} {enc : TypeId × Value → H} {P : Program} {W : World} {b0 : Nat} {t e : TypeId} {v : Value} {d : DataW H} {ps : List MemPlace} {α : Type} (E : Enc α) {Q : α → Prop}
    (ht : P.underlying t = some (.slice e)) (ho : Opn P e E.f Q) (hc : P.cellsOf e = E.s) (hval : Value.okWide P W .any b0 t v) (hd : DataW.Trod enc P W 0 (fun _ => true) true t v d ps) :
    ∃ xs : List α, (∀ a ∈ xs, Q a) ∧ xs.length ≤ Go.maxLen ∧ (rsl E v xs).sat emp (allR W) := by
  obtain ⟨a, len, cap, rfl⟩ := okWide_slice ht hval
  obtain ⟨fuel, hf⟩ := hd
  have hcell : (Value.slice a len cap).cells.toList = [.slice a len cap] := rfl
  rw [hcell] at hf
  rcases Deep.open_slice ht hf with ⟨h0, _⟩ | ⟨a', len', cap', m, n, D, Pl, h0, _, hle, hm, rfl, _, hx⟩
  · simp only [List.cons.injEq, Value.slice.injEq, and_true] at h0
    obtain ⟨rfl, rfl, rfl⟩ := h0
    exact ⟨[], by simp, by simp, fun _ => rfl, .inl ⟨rfl, rfl⟩⟩
  · simp only [List.cons.injEq, Value.slice.injEq, and_true] at h0
    obtain ⟨rfl, rfl, rfl⟩ := h0
    have hok : W.has P .any b0 a' e cap := by
      have : Cell.okWide P W .any b0 t (.slice (some a') len cap) := by simpa [Value.okWide, ht] using hval
      have : Cell.ok P W .any b0 t (.slice (some a') len cap) := by simpa [Cell.okWide, ht] using this
      simp only [Cell.ok, ht] at this
      exact this.2.2
    obtain ⟨_, hspot, row, cells, hshape, _⟩ := hok
    obtain ⟨b, o, sp⟩ := a'
    simp only at hspot hshape
    subst hspot
    unfold World.shape? at hshape
    split at hshape
    · rename_i cur elem fz hw
      rw [hc] at hx
      have each : ∀ i, i < len → ∃ y, W.cells? 0 ((⟨b, o, none⟩ : Addr).add (i * E.s)) E.s = some (E.f y) ∧ Q y := fun i hi => by
        obtain ⟨cs', h1, h2⟩ := hx i (by omega)
        obtain ⟨y, e1, e2⟩ := ho enc W _ true n cs' _ h2
        exact ⟨y, e1 ▸ h1, e2⟩
      have key : ∀ m, m ≤ len → ∃ xs : List α, xs.length = m ∧ (∀ y ∈ xs, Q y) ∧ ∀ j u, (E.cells xs)[j]? = some u → W.cell? ⟨b, o + j, none⟩ = some u := by
        intro m
        induction m with
        | zero => exact fun _ => ⟨[], rfl, by simp, by simp [Enc.cells]⟩
        | succ m ih =>
          intro hm'
          obtain ⟨xs, h1, h2, h3⟩ := ih (by omega)
          obtain ⟨y, e1, e2⟩ := each m (by omega)
          refine ⟨xs ++ [y], by simp [h1], ?_, ?_⟩
          · intro z hz
            rcases List.mem_append.1 hz with hz | hz
            · exact h2 z hz
            · simp at hz; subst hz; exact e2
          · intro j u hu
            rw [Enc.cells_append] at hu
            by_cases hj : j < (E.cells xs).length
            · rw [List.getElem?_append_left hj] at hu
              exact h3 j u hu
            · rw [List.getElem?_append_right (by omega), E.length_cells, h1] at hu
              rw [E.length_cells, h1] at hj
              obtain ⟨_, hl, hcl⟩ := World.cells?_some e1
              have hu' : (E.f y)[j - m * E.s]? = some u := by simpa [Enc.cells] using hu
              have hlt : j - m * E.s < E.s := by
                have := (List.getElem?_eq_some_iff.1 hu').1
                rwa [E.len] at this
              have := hcl (j - m * E.s) hlt
              rw [hu', Addr.add_lit, Addr.add_lit] at this
              rw [← this]
              congr 2
              omega
      obtain ⟨xs, h1, h2, h3⟩ := key len (Nat.le_refl _)
      subst h1
      refine ⟨xs, h2, Nat.le_trans hle hm, fun _ => rfl, .inr ⟨b, o, cap, cur, elem, fz, rfl, hle, hm, hw, ?_⟩⟩
      apply List.ext_getElem?
      intro j
      rw [List.getElem?_take]
      split
      · rename_i hj
        rw [← E.length_cells] at hj
        have hu := h3 j _ (List.getElem?_eq_getElem hj)
        rw [List.getElem?_drop, List.getElem?_eq_getElem hj]
        simpa [World.cell?, hw] using hu
      · rename_i hj
        rw [← E.length_cells] at hj
        exact (List.getElem?_eq_none (by omega)).symm
    · cases hshape

theorem open_agg {H : Type} {enc : TypeId × Value → H} {P : Program} {W : World} {b0 : Nat} {t : TypeId} {fs : Array Field} {v : Value} {d : DataW H} {ps : List MemPlace} {α : Type} {f : α → List Value} {Q : α → Prop}
    (ht : P.underlying t = some (.struct fs)) (ho : Opn P t f Q) (hval : Value.okWide P W .any b0 t v) (hd : DataW.Trod enc P W 0 (fun _ => true) true t v d ps) : ∃ a, v = .agg ⟨f a⟩ ∧ Q a := by
  have hv : ∃ cs, v = .agg cs := by
    simp only [Value.okWide, ht] at hval
    obtain ⟨cs, h, _⟩ := hval
    exact ⟨cs, h⟩
  obtain ⟨cs, rfl⟩ := hv
  obtain ⟨fuel, hf⟩ := hd
  obtain ⟨a, e, q⟩ := ho enc W _ true fuel _ _ hf
  refine ⟨a, ?_, q⟩
  have : cs.toList = f a := e
  rw [← this]
theorem open_boolv {H : Type} {enc : TypeId × Value → H} {P : Program} {W : World} {b0 : Nat} {t : TypeId} {v : Value} {d : DataW H} {ps : List MemPlace} (ht : P.underlying t = some .bool)
    (hval : Value.okWide P W .any b0 t v) (hd : DataW.Trod enc P W 0 (fun _ => true) true t v d ps) : ∃ b, v = .bool b := by
  obtain ⟨b, h, _⟩ := open_bool ht hval hd
  exact ⟨b, h⟩

/-- What is read only of arguments, all at once. -/
theorem sat_nil {W : World} : Sat [] emp (allR W) := fun _ => rfl
theorem sat_cons {A : Atom} {H : List Atom} {W : World} (h : A.sat emp (allR W)) (hs : Sat H emp (allR W)) : Sat (A :: H) emp (allR W) := ⟨emp, emp, .emp_left emp, h, hs⟩
end Go.SL
