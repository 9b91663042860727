/- Drawn regions of which an operation writes to a slot the value that already stands there ('return line, ..' of a named result). No program is named here. -/
import Derived.Test.YtdnjjodjglikjaaSLDraw2
namespace Go.SL
open Go

variable {c : Cx} {k : List Item} {K : List (Nat × Value)}

def sameAt (K V : List (Nat × Value)) (o : Oper) (i : Nat) : Prop := ∀ d, o.dst = some d → look K d = none ∨ look V i = look K d
def sameV (K V : List (Nat × Value)) : List Oper → Nat → Prop
  | [], _ => True
  | o :: l, i => sameAt K V o i ∧ sameV K V l (i + 1)
theorem sameAt_new {V : List (Nat × Value)} {o : Oper} {i d : Nat} (h : o.dst = some d) (hn : look K d = none) : sameAt K V o i := fun e he => by
  rw [h] at he; cases he; exact .inl hn
theorem sameAt_old {V : List (Nat × Value)} {o : Oper} {i d : Nat} (h : o.dst = some d) (hn : look V i = look K d) : sameAt K V o i := fun e he => by
  rw [h] at he; cases he; exact .inr hn
theorem sameAt_no {V : List (Nat × Value)} {o : Oper} {i : Nat} (h : o.dst = none) : sameAt K V o i := fun e he => by rw [h] at he; cases he
theorem sameV_spec {V : List (Nat × Value)} : ∀ {l : List Oper} {n : Nat}, sameV K V l n → ∀ i o, l[i]? = some o → sameAt K V o (n + i)
  | [], _, _, i, o, h => by simp at h
  | p :: l, n, hs, i, o, h => by
    cases i with
    | zero => simp at h; subst h; exact hs.1
    | succ i =>
      have := sameV_spec hs.2 i o (by simpa using h)
      rwa [Nat.add_assoc, Nat.add_comm 1 i] at this
theorem Inv.putS {ops : List Oper} {D : Nat → Prop} {V : List (Nat × Value)} {a : Act} {N : Nat} {i : Nat} {o : Oper} {v : Value} (hk : dstsOk N [] ops [] = true) (hsv : sameV K V ops 0) (hN : Kn N K a) (h : Inv ops D V a) (ho : ops[i]? = some o) (hv : look V i = some v) :
    Inv ops (fun j => j = i ∨ D j) V (a.put o.dst v) ∧ Kn N K (a.put o.dst v) := by
  refine ⟨(Inv.put hk (K := []) ⟨hN.1, fun t u hu => by simp [look] at hu⟩ h ho hv).1, ?_, fun t u hu => ?_⟩
  · cases o.dst <;> simp [Act.put] <;> exact hN.1
  · cases hod : o.dst with
    | none => simp only [Act.put]; exact hN.2 t u hu
    | some di =>
      simp only [Act.put, Array.getElem?_setIfInBounds]
      by_cases e : di = t
      · subst e
        have h1 := ((dstsOk_spec hk).1 i o di ho hod).1
        have h2 := hN.1
        have h3 := sameV_spec hsv i o ho di hod
        rw [Nat.zero_add, hu, hv] at h3
        rcases h3 with h3 | h3
        · cases h3
        · rw [if_pos rfl, if_pos (by omega), h3]
      · rw [if_neg e]
        exact hN.2 t u hu
theorem DT.lightsS {ops : List Oper} {L A : List Atom} {V : List (Nat × Value)} {hv : List Nat} (hk : dstsOk c.func.ntmps [] ops [] = true) (hsv : sameV K V ops 0)
    (hl : ∀ i v, look V i = some v → i ∉ hv → Lt c ops K L V i v)
    (next : ∀ (D : Nat → Prop) (l : List Nat), (∀ i, D i → inV V i = true) → (∀ (i : Nat) (o : Oper), ops[i]? = some o → D i → ∀ j ∈ deps o, D j) → (∀ i ∈ hv, D i) → Lin ops D l → (l = [] ∨ ∃ i l', l = i :: l' ∧ inV V i = false) →
      ∀ (b : Frame) (a : Act) (cs : List Frame) (w : World) (hx hr : Hp), c.P.funcs[c.fn]? = some c.func → b.fn = c.fn → b.kind = .normal → b.roundOf = c.ro →
        (c.ro ≠ none → cs ≠ []) → a.defers = c.ds → Kn c.func.ntmps K a → Inv ops D V a → G w (L ++ A) hx hr → Run c b a (.inRegion ops.toArray l :: k) cs w hx hr) :
    ∀ (l : List Nat) (D : Nat → Prop), (∀ i, D i → inV V i = true) → (∀ (i : Nat) (o : Oper), ops[i]? = some o → D i → ∀ j ∈ deps o, D j) → (∀ i ∈ hv, D i) → Lin ops D l →
      ∀ (b : Frame) (a : Act) (cs : List Frame) (w : World) (hx hr : Hp), c.P.funcs[c.fn]? = some c.func → b.fn = c.fn → b.kind = .normal → b.roundOf = c.ro →
        (c.ro ≠ none → cs ≠ []) → a.defers = c.ds → Kn c.func.ntmps K a → Inv ops D V a → G w (L ++ A) hx hr → Run c b a (.inRegion ops.toArray l :: k) cs w hx hr
  | [], D, hD, hC, hH, hlin => next D [] hD hC hH hlin (.inl rfl)
  | i :: l, D, hD, hC, hH, hlin => by
    intro b a cs w hx hr h0 h1 h2 h3 h4 h5 h6 h7 h8
    cases hin : inV V i with
    | false => exact next D _ hD hC hH hlin (.inr ⟨i, l, rfl, hin⟩) b a cs w hx hr h0 h1 h2 h3 h4 h5 h6 h7 h8
    | true =>
      cases hlin with
      | @cons _ _ o _ ho hnD hdeps hrest =>
        obtain ⟨v, hv'⟩ := Option.isSome_iff_exists.1 hin
        have hLt := hl i v hv' (fun hm => hnD (hH i hm))
        obtain ⟨w', hx', hr', g', st, s⟩ := hLt.run (k := k) (cs := cs) (l := l) ho hdeps h2 h3 h6 h7 h8
        obtain ⟨hI, hK⟩ := Inv.putS hk hsv h6 h7 ho hv'
        refine Run.step s st ?_
        refine DT.lightsS hk hsv hl next l (fun j => j = i ∨ D j) (fun j hj => ?_) (Lin.closed hC ho hdeps) (fun j hj => .inr (hH j hj)) hrest b _ cs w' hx' hr' h0 h1 h2 h3 h4 ((put_defers a _ v).trans h5) hK hI g'
        rcases hj with rfl | hj
        · exact hin
        · exact hD j hj
/-- The end of a region of light operations alone. -/
theorem DT.doneS {ops : List Oper} {hs : List Nat} {L A : List Atom} {V : List (Nat × Value)} {hv : List Nat} (hk : dstsOk c.func.ntmps [] ops [] = true) (hsv : sameV K V ops 0) (hall : allV V ops 0 = true) (hnd : nodupV V = true) (h : T c k (outV ops V ++ K) (L ++ A)) : DT c ops hs k K L V hv A := by
  intro hl D l hD hC hH hlin
  refine DT.lightsS hk hsv hl ?_ l D hD hC hH hlin
  intro D l hD hC hH hlin hcase b a cs w hx hr h0 h1 h2 h3 h4 h5 h6 h7 h8
  rcases hcase with rfl | ⟨j, l', rfl, hj⟩
  · cases hlin with
    | nil hi =>
      have hI : Inv ops (fun _ => True) V a := fun i v hv _ o d ho hd => h7 i v hv (hi i (List.getElem?_eq_some_iff.1 ho).1) o d ho hd
      exact Run.step (.one stepR_region_end) (Stp.refl w hx hr) (h b a cs w hx hr h0 h1 h2 h3 h4 h5 (h6.outV hI hnd) h8)
  · cases hlin with
    | @cons _ _ p _ hp hnD hdeps hrest =>
      have := allV_spec hall j (List.getElem?_eq_some_iff.1 hp).1
      rw [Nat.zero_add, hj] at this; cases this
end Go.SL
