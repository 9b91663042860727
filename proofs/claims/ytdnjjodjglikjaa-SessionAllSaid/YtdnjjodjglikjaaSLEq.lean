/- Two structs compared: of whole numbers, texts, truth values, and structs of such. No program is named here; the conditions stand in each rule. -/
import Derived.Test.YtdnjjodjglikjaaSLDraw4
import Derived.Laws.StructEq
namespace Go.SL
open Go

def EqR (P : Program) (d : Nat) (t : TypeId) (x y : Value) (b : Bool) : Prop := ∀ w, (Op.equalIn d t x y).run P w = .ok b w
def EqFs (P : Program) (d : Nat) (xs ys : Array Value) (fs : List Field) (b : Bool) : Prop := ∀ w, (Op.eqFields d xs ys fs).run P w = .ok b w
def PartR (P : Program) (t : TypeId) (cs : Array Value) (off : Nat) (v : Value) : Prop := ∀ w, (part t cs off).run P w = .ok v w

variable {P : Program} {d : Nat} {t : TypeId} {xs ys : Array Value}
def aggIf (P : Program) (t : TypeId) : Option Bool := match P.underlying t with
  | some (.struct _) | some (.array _ _) => some true
  | some _ => some false
  | none => none
theorem partR_one {off : Nat} {v : Value} (ha : aggIf P t = some false) (h : xs[off]? = some v) : PartR P t xs off v := by
  intro w
  unfold aggIf at ha
  split at ha <;> simp_all [part, isAgg, underlying, Result.andThen]
theorem partR_agg {off n : Nat} {i : TypeInfo} (ha : aggIf P t = some true) (hi : P.info? t = some i) (hn : i.size = n) : PartR P t xs off (.agg (xs.extract off (off + n))) := by
  intro w
  unfold aggIf at ha
  subst hn
  split at ha <;> simp_all [part, isAgg, underlying, sizeOf, typeInfo, Result.andThen]
theorem eqR_int {k k' : IntKind} {a b : Int} (h : P.underlying t = some (.int k')) : EqR P (d + 1) t (.int k a) (.int k b) (eqI a b) := fun w => by
  rw [run_equalIn_int w d t k k' a b h]; rfl
theorem eqR_bool {a b : Bool} (h : P.underlying t = some .bool) : EqR P (d + 1) t (.bool a) (.bool b) (a == b) := fun w => run_equalIn_bool' w d t a b h
theorem eqR_str {a b : ByteArray} (h : P.underlying t = some .string) : EqR P (d + 1) t (.string a) (.string b) (eqL a.data.toList b.data.toList) := fun w => by
  rw [run_equalIn_string w d t a b h]
  have e : (a.toList == b.toList) = eqL a.data.toList b.data.toList := by rw [ByteArray.toList_eq, ByteArray.toList_eq, Bool.eq_iff_iff, eqL]; simp
  rw [e]
theorem eqR_struct {fs : Array Field} {b : Bool} (ht : P.underlying t = some (.struct fs)) (hp : P.stoodInHeld t = false) (h : EqFs P d xs ys fs.toList b) : EqR P (d + 1) t (.agg xs) (.agg ys) b := fun w => by
  have hf : P.fieldsOf t = fs := by simp [Program.fieldsOf, ht]
  rw [run_equalIn_struct w d t xs ys (by rw [hf, ht]) hp, hf]
  exact h w
theorem eqFs_nil : EqFs P d xs ys [] true := fun w => by simp [Op.eqFields]
theorem eqFs_cons {f : Field} {fs : List Field} {a b : Value} {r1 r2 : Bool} (hn : decide (f.name ≠ "_") = true) (ha : PartR P f.type xs f.offset a) (hb : PartR P f.type ys f.offset b) (h1 : EqR P d f.type a b r1) (h2 : EqFs P d xs ys fs r2) :
    EqFs P d xs ys (f :: fs) (r1 && r2) := fun w => by
  have hn' : f.name ≠ "_" := of_decide_eq_true hn
  simp only [Op.eqFields, if_pos hn', Sem.run_bind, ha w, hb w, h1 w, Result.andThen_ok]
  cases r1 with
  | true => simpa using h2 w
  | false => simp

variable {c : Cx} {K : List (Nat × Value)} {H : List Atom} {dd : Option Tmp} {ty : TypeId} {pos : String} {af : Array Edge} {gd : Option (Nat × Bool)} {t' yt : TypeId} {x y : Operand}
theorem Op1.eqlA {r : Bool} (hg : c.P.eqGuardType c.P.depth t = false) (hx : evK K x = some (.agg xs)) (hy : evK K y = some (.agg ys)) (h : EqR c.P 10000 t (.agg xs) (.agg ys) r) :
    Op1 c ⟨dd, .binOp .eql t x y yt, ty, pos, af, gd⟩ K H (ret (.bool r) H) :=
  Op1.of_val (by simp) _ fun a w _ _ hK _ => by
    simp only [execOp, hK.eval hx, hK.eval hy, Sem.run_bind, run_eqGuard_agg w .eql t x y xs ys hg, Result.andThen_ok, run_eql_struct, h w]
    rfl
theorem Op1.neqA {r : Bool} (hg : c.P.eqGuardType c.P.depth t = false) (hx : evK K x = some (.agg xs)) (hy : evK K y = some (.agg ys)) (h : EqR c.P 10000 t (.agg xs) (.agg ys) r) :
    Op1 c ⟨dd, .binOp .neq t x y yt, ty, pos, af, gd⟩ K H (ret (.bool (!r)) H) :=
  Op1.of_val (by simp) _ fun a w _ _ hK _ => by
    simp only [execOp, hK.eval hx, hK.eval hy, Sem.run_bind, run_eqGuard_agg w .neq t x y xs ys hg, Result.andThen_ok, run_neq_struct, h w]
    rfl
/-! ### A result that lies in a cell of its own -/
theorem resS1 {t b : Nat} {v : Value} {e : TypeId} {fz : Nat × Nat} {tt : TypeId} (h : c.func.results = #[.cell t tt]) (hl : look K t = some (.pointer (some ⟨b, 0, none⟩))) (hs : scalar c.P tt = true) (hb : Has b (.cells ⟨[v]⟩ e fz) H) :
    ∀ (a : Act) (w : World) (hx hr : Hp), Kn c.func.ntmps K a → G w H hx hr → (results c.func a.tmps).run c.P w = .ok v w :=
  fun a w _ _ hK hG => by
    have := hK.2 _ _ hl
    have hc : w.cell? ⟨b, 0, none⟩ = some v := by simp [World.cell?, hG.has hb]
    simp [results, Array.getD_eq_getD_getElem?, asAddr, loadVar, run_scalar hs, *]
theorem resS2 {t t' b : Nat} {v v' : Value} {e : TypeId} {fz : Nat × Nat} {tt : TypeId} (h : c.func.results = #[.cell t tt, .tmp t']) (hl : look K t = some (.pointer (some ⟨b, 0, none⟩))) (hs : scalar c.P tt = true) (hb : Has b (.cells ⟨[v]⟩ e fz) H) (hl' : look K t' = some v') :
    ∀ (a : Act) (w : World) (hx hr : Hp), Kn c.func.ntmps K a → G w H hx hr → (results c.func a.tmps).run c.P w = .ok (.tuple #[v, v']) w :=
  fun a w _ _ hK hG => by
    have := hK.2 _ _ hl
    have := hK.2 _ _ hl'
    have hc : w.cell? ⟨b, 0, none⟩ = some v := by simp [World.cell?, hG.has hb]
    simp [results, Array.getD_eq_getD_getElem?, asAddr, loadVar, run_scalar hs, *]
/-! ### A slice that one reads: nil, or not -/
theorem T.casesR {α : Type} {E : Enc α} {v : Value} {xs : List α} {c : Cx} {td : List Item} {K : List (Nat × Value)} {H H1 : List Atom} (p : Pick (rsl E v xs) H H1) (h0 : v = .slice none 0 0 → xs = [] → T c td K H)
    (h1 : ∀ b o cap, v = .slice (some ⟨b, o, none⟩) xs.length cap → T c td K H) : T c td K H := by
  intro b a cs w hx hr g0 g1 g2 g3 g4 g5 g6 g7
  obtain ⟨k1, k2, j, s1, s2⟩ := g7.sat.pick p
  rcases s1.2 with ⟨e1, e2⟩ | ⟨b', o, cap, cur, e, fz, e1, _⟩
  · exact h0 e1 e2 b a cs w hx hr g0 g1 g2 g3 g4 g5 g6 g7
  · exact h1 b' o cap e1 b a cs w hx hr g0 g1 g2 g3 g4 g5 g6 g7
end Go.SL
