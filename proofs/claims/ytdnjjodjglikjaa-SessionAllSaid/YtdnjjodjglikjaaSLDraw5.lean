/- Drawn regions whose last operation, behind all others, overwrites a slot that others read ('out = append(out, ..)'). No program is named here. -/
import Derived.Test.YtdnjjodjglikjaaSLDraw3
namespace Go.SL
open Go

variable {c : Cx} {k : List Item} {K : List (Nat × Value)}

/-- What operation i writes is none of K's slots. -/
def freeAt (K : List (Nat × Value)) (ops : List Oper) (i : Nat) : Bool := match ops[i]? with
  | some o => match o.dst with
    | some d => (look K d).isNone
    | none => true
  | none => true
def freeV (K : List (Nat × Value)) (ops : List Oper) : List (Nat × Value) → Bool
  | [] => true
  | (i, _) :: V => freeAt K ops i && freeV K ops V
theorem freeV_spec {ops : List Oper} : ∀ {V : List (Nat × Value)}, freeV K ops V = true → ∀ i, inV V i = true → freeAt K ops i = true
  | [], _, i, h => by simp [inV, look] at h
  | (j, v) :: V, hf, i, h => by
    simp only [freeV, Bool.and_eq_true] at hf
    unfold inV at h
    rw [look_cons] at h
    by_cases e : j = i
    · rw [← e]; exact hf.1
    · rw [if_neg e] at h
      exact freeV_spec hf.2 i h
theorem Inv.putF {ops : List Oper} {D : Nat → Prop} {V : List (Nat × Value)} {a : Act} {N : Nat} {i : Nat} {o : Oper} {v : Value} (hk : dstsOk N [] ops [] = true) (hf : freeAt K ops i = true) (hN : Kn N K a) (h : Inv ops D V a) (ho : ops[i]? = some o) (hv : look V i = some v) :
    Inv ops (fun j => j = i ∨ D j) V (a.put o.dst v) ∧ Kn N K (a.put o.dst v) := by
  refine ⟨(Inv.put hk (K := []) ⟨hN.1, fun t u hu => by simp [look] at hu⟩ h ho hv).1, ?_, fun t u hu => ?_⟩
  · cases o.dst <;> simp [Act.put] <;> exact hN.1
  · cases hod : o.dst with
    | none => simp only [Act.put]; exact hN.2 t u hu
    | some di =>
      simp only [Act.put, Array.getElem?_setIfInBounds]
      have hne : di ≠ t := fun e => by
        subst e
        unfold freeAt at hf
        simp only [ho, hod, hu] at hf
        cases hf
      rw [if_neg hne]
      exact hN.2 t u hu
theorem DT.lightsF {ops : List Oper} {L A : List Atom} {V : List (Nat × Value)} {hv : List Nat} (hk : dstsOk c.func.ntmps [] ops [] = true) (hf : freeV K ops V = true)
    (hl : ∀ i v, look V i = some v → i ∉ hv → Lt c ops K L V i v)
    (next : ∀ (D : Nat → Prop) (l : List Nat), (∀ i, D i → inV V i = true) → (∀ (i : Nat) (o : Oper), ops[i]? = some o → D i → ∀ j ∈ deps o, D j) → (∀ i ∈ hv, D i) → Lin ops D l → (l = [] ∨ ∃ i l', l = i :: l' ∧ inV V i = false) →
      ∀ (b : Frame) (a : Act) (cs : List Frame) (w : World) (hx hr : Hp), c.P.funcs[c.fn]? = some c.func → b.fn = c.fn → b.kind = .normal → b.roundOf = c.ro →
        (c.ro ≠ none → cs ≠ []) → a.defers = c.ds → Kn c.func.ntmps K a → Inv ops D V a → G w (L ++ A) hx hr → Run c b a (.inRegion ops.toArray l :: k) cs w hx hr) :
    ∀ (l : List Nat) (D : Nat → Prop), (∀ i, D i → inV V i = true) → (∀ (i : Nat) (o : Oper), ops[i]? = some o → D i → ∀ j ∈ deps o, D j) → (∀ i ∈ hv, D i) → Lin ops D l →
      ∀ (b : Frame) (a : Act) (cs : List Frame) (w : World) (hx hr : Hp), c.P.funcs[c.fn]? = some c.func → b.fn = c.fn → b.kind = .normal → b.roundOf = c.ro →
        (c.ro ≠ none → cs ≠ []) → a.defers = c.ds → Kn c.func.ntmps K a → Inv ops D V a → G w (L ++ A) hx hr → Run c b a (.inRegion ops.toArray l :: k) cs w hx hr
  | [], D, hD, hC, hH, hlin => next D [] hD hC hH hlin (.inl rfl)
  | i :: l, D, hD, hC, hH, hlin => by
    intro b a cs w hx hr h0 h1 h2 h3 h4 h5 h6 h7 h8
    cases hin : inV V i with
    | false => exact next D _ hD hC hH hlin (.inr ⟨i, l, rfl, hin⟩) b a cs w hx hr h0 h1 h2 h3 h4 h5 h6 h7 h8
    | true =>
      cases hlin with
      | @cons _ _ o _ ho hnD hdeps hrest =>
        obtain ⟨v, hv'⟩ := Option.isSome_iff_exists.1 hin
        have hLt := hl i v hv' (fun hm => hnD (hH i hm))
        obtain ⟨w', hx', hr', g', st, s⟩ := hLt.run (k := k) (cs := cs) (l := l) ho hdeps h2 h3 h6 h7 h8
        obtain ⟨hI, hK⟩ := Inv.putF hk (freeV_spec hf i hin) h6 h7 ho hv'
        refine Run.step s st ?_
        refine DT.lightsF hk hf hl next l (fun j => j = i ∨ D j) (fun j hj => ?_) (Lin.closed hC ho hdeps) (fun j hj => .inr (hH j hj)) hrest b _ cs w' hx' hr' h0 h1 h2 h3 h4 ((put_defers a _ v).trans h5) hK hI g'
        rcases hj with rfl | hj
        · exact hin
        · exact hD j hj
/-- An operation that turns memory: A alone; what may still come late reads L. -/
theorem DT.heavyF {ops : List Oper} {hs : List Nat} {L A : List Atom} {V : List (Nat × Value)} {hv : List Nat} (hk : dstsOk c.func.ntmps [] ops [] = true) (hf : freeV K ops V = true) (i : Nat) {o : Oper} {Q : Value → List Atom → Prop} (_ : nextHeavy V hs = some i) (hi : inV V i = false)
    (hfi : freeAt K ops i = true) (ho : ops[i]? = some o) (hcl : closedBut V i ops 0 = true) (hw : wants ops (KD ops V o K) o = some true) (hop : Op1 c o (KD ops V o K) A Q)
    (h : ∀ v A', Q v A' → DT c ops hs k K L ((i, v) :: V) (i :: hv) A') : DT c ops hs k K L V hv A := by
  intro hl D l hD hC hH hlin
  refine DT.lightsF hk hf hl ?_ l D hD hC hH hlin
  intro D l hD hC hH hlin hcase b a cs w hx hr' h0 h1 h2 h3 h4 h5 h6 h7 h8
  rcases hcase with rfl | ⟨j, l', rfl, hj⟩
  · cases hlin with
    | nil hall =>
      have hil : i < ops.length := (List.getElem?_eq_some_iff.1 ho).1
      have := hD i (hall i hil)
      rw [hi] at this; cases this
  · cases hlin with
    | @cons _ _ p _ hp hnD hdeps hrest =>
      have hrp : readyV V p = true := List.all_eq_true.2 fun q hq => hD q (hdeps q hq)
      have hji : j = i := by
        rcases closedBut_spec hcl j p hp hrp with h | h
        · rw [Nat.zero_add, hj] at h; cases h
        · omega
      subst hji
      rw [ho] at hp
      cases hp
      have hKD := Kn.KD (o := o) h6 h7 hdeps
      obtain ⟨h1', h2', jn, sL, sA⟩ := Sat.append.1 h8.sat
      have gA : G w A h2' hr' := ⟨sA, fun q u e => h8.own q u (jn.right e), h8.red, fun q => (h8.dj q).imp (fun h => (jn.isNone.1 h).2) id⟩
      obtain ⟨v, w', A', hx2, hr2, q, g', st, s⟩ := hop ops.toArray b a cs k l' j w h2' hr' (by simpa using ho) (wants_sound hw hKD) h2 h3 hKD gA
      obtain ⟨hx3, g3, st3⟩ := G.frame jn.comm h8.own h8.dj st g' sL
      have g4 : G w' (L ++ A') hx3 hr2 := ⟨g3.sat.perm List.perm_append_comm, g3.own, g3.red, g3.dj⟩
      have hlook : look ((j, v) :: V) j = some v := by rw [look_cons, if_pos rfl]
      have hInv0 : Inv ops D ((j, v) :: V) a := by
        intro m u hu hm p d hp hd
        rw [look_cons] at hu
        by_cases e : j = m
        · subst e; exact absurd hm hnD
        · rw [if_neg e] at hu; exact h7 m u hu hm p d hp hd
      obtain ⟨hI, hK⟩ := Inv.putF hk hfi h6 hInv0 ho hlook
      refine Run.step s st3 ?_
      refine h v A' q ?_ (fun m => m = j ∨ D m) l' ?_ (Lin.closed hC ho hdeps) ?_ hrest b _ cs w' hx3 hr2 h0 h1 h2 h3 h4 ((put_defers a _ v).trans h5) hK hI g4
      · intro m u hu hm
        rw [look_cons] at hu
        have hne : j ≠ m := fun e => hm (by simp [e])
        rw [if_neg hne] at hu
        exact (hl m u hu (fun h => hm (by simp [h]))).mono hi
      · intro m hm
        unfold inV
        rw [look_cons]
        split
        · rfl
        · rename_i hne
          rcases hm with rfl | hm
          · exact absurd rfl hne
          · exact hD m hm
      · intro m hm
        rcases List.mem_cons.1 hm with rfl | hm
        · exact .inl rfl
        · exact .inr (hH m hm)
def dropD (d : Nat) (K : List (Nat × Value)) : List (Nat × Value) := match K with
  | [] => []
  | p :: K => if Nat.beq p.1 d = true then dropD d K else p :: dropD d K
theorem look_dropD {d t : Nat} {u : Value} : ∀ {K : List (Nat × Value)}, look (dropD d K) t = some u → t ≠ d ∧ look K t = some u
  | [], h => by simp [dropD, look] at h
  | (i, v) :: K, h => by
    unfold dropD at h
    by_cases hi : i = d
    · subst hi
      rw [if_pos (by simp)] at h
      obtain ⟨h1, h2⟩ := look_dropD h
      exact ⟨h1, by rw [look_cons, if_neg (Ne.symm h1)]; exact h2⟩
    · rw [if_neg (by simpa using hi), look_cons] at h
      by_cases e : i = t
      · subst e
        rw [if_pos rfl] at h
        exact ⟨hi, by rw [look_cons, if_pos rfl]; exact h⟩
      · rw [if_neg e] at h
        obtain ⟨h1, h2⟩ := look_dropD h
        exact ⟨h1, by rw [look_cons, if_neg e]; exact h2⟩
def lastOk (ops : List Oper) (z : Nat) (o : Oper) : Bool := (List.range ops.length).all fun q => Nat.beq q z || (deps o).contains q
/-- The last operation, behind all the others: it may overwrite what they read. -/
theorem DT.lastF {ops : List Oper} {hs : List Nat} {L A : List Atom} {V : List (Nat × Value)} {hv : List Nat} (hk : dstsOk c.func.ntmps [] ops [] = true) (hf : freeV K ops V = true) (z d : Nat) {o : Oper} (hz : inV V z = false) (ho : ops[z]? = some o) (hd : o.dst = some d)
    (hcl : closedBut V z ops 0 = true) (hla : lastOk ops z o = true) (hnd : nodupV V = true) (hw : wants ops (KD ops V o K) o = some true) {v : Value} (hop : Op1 c o (KD ops V o K) (L ++ A) (ret v (L ++ A)))
    (h : T c k ((d, v) :: (outV ops V ++ dropD d K)) (L ++ A)) : DT c ops hs k K L V hv A := by
  intro hl D l hD hC hH hlin
  refine DT.lightsF hk hf hl ?_ l D hD hC hH hlin
  intro D l hD hC hH hlin hcase b a cs w hx hr' h0 h1 h2 h3 h4 h5 h6 h7 h8
  rcases hcase with rfl | ⟨j, l', rfl, hj⟩
  · cases hlin with
    | nil hi =>
      have hil : z < ops.length := (List.getElem?_eq_some_iff.1 ho).1
      have := hD z (hi z hil)
      rw [hz] at this; cases this
  · cases hlin with
    | @cons _ _ p _ hp hnD hdeps hrest =>
      have hrp : readyV V p = true := List.all_eq_true.2 fun q hq => hD q (hdeps q hq)
      have hji : j = z := by
        rcases closedBut_spec hcl j p hp hrp with h | h
        · rw [Nat.zero_add, hj] at h; cases h
        · omega
      subst hji
      rw [ho] at hp
      cases hp
      have hKD := Kn.KD (o := o) h6 h7 hdeps
      obtain ⟨v', w', H', hx2, hr2, ⟨rfl, rfl⟩, g', st, s⟩ := hop ops.toArray b a cs k l' j w hx hr' (by simpa using ho) (wants_sound hw hKD) h2 h3 hKD h8
      have hAll : ∀ q, q < ops.length → q = j ∨ D q := fun q hq => by
        have := List.all_eq_true.1 hla q (by simpa using hq)
        simp only [Bool.or_eq_true] at this
        rcases this with h | h
        · exact .inl (by simpa using h)
        · exact .inr (hdeps q (by simpa using h))
      have hnil : l' = [] := by
        cases l' with
        | nil => rfl
        | cons q l2 =>
          cases hrest with
          | @cons _ _ p2 _ hq hnq _ _ => exact absurd (hAll q (List.getElem?_eq_some_iff.1 hq).1) hnq
      subst hnil
      have hlt := ((dstsOk_spec hk).1 j o d ho hd).1
      have hKd : Kn c.func.ntmps (dropD d K) a := ⟨h6.1, fun t u hu => h6.2 t u (look_dropD hu).2⟩
      have hI : Inv ops (fun _ => True) V a := fun i u hu _ p e hp he => by
        refine h7 i u hu ?_ p e hp he
        rcases hAll i (List.getElem?_eq_some_iff.1 hp).1 with rfl | h
        · unfold inV at hz; rw [hu] at hz; cases hz
        · exact h
      have hKo := hKd.outV hI hnd
      have hKf : Kn c.func.ntmps ((d, v') :: (outV ops V ++ dropD d K)) (a.put o.dst v') := by
        rw [hd]
        refine ⟨by simp [Act.put]; exact h6.1, fun t u hu => ?_⟩
        simp only [Act.put, Array.getElem?_setIfInBounds]
        rw [look_cons] at hu
        have := h6.1
        by_cases e : d = t
        · rw [if_pos e] at hu
          rw [if_pos e, if_pos (by omega), hu]
        · rw [if_neg e] at hu
          rw [if_neg e]
          exact hKo.2 t u hu
      refine Run.step s st ?_
      exact Run.step (.one stepR_region_end) (Stp.refl w' hx2 hr2) (h b _ cs w' hx2 hr2 h0 h1 h2 h3 h4 ((put_defers a _ v').trans h5) hKf g')
end Go.SL
