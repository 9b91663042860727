/- A region whose order is drawn: what only reads or computes may come early or late; what turns memory comes in its own order. No program is named here; the conditions stand in each rule. -/
import Derived.Test.YtdnjjodjglikjaaSLOwn
namespace Go.SL
open Go

/-- The operations that must come ahead. -/
def deps (o : Oper) : List Nat := (o.after.toList.filter (Region.binds .any ·)).map (·.on)

/-- A rest of an order: what has not come yet, each behind what it hangs on; all, in the end. -/
inductive Lin (ops : List Oper) : (Nat → Prop) → List Nat → Prop
  | nil {D : Nat → Prop} : (∀ i, i < ops.length → D i) → Lin ops D []
  | cons {D : Nat → Prop} {i : Nat} {o : Oper} {l : List Nat} : ops[i]? = some o → ¬ D i → (∀ j ∈ deps o, D j) → Lin ops (fun j => j = i ∨ D j) l → Lin ops D (i :: l)

/-- Each operation hangs on earlier ones alone. -/
def acyclic (ops : List Oper) : Bool := ops.zipIdx.all fun (o, i) => (deps o).all fun j => Nat.blt j i

theorem acyclic_spec {ops : List Oper} (h : acyclic ops = true) {i : Nat} {o : Oper} (ho : ops[i]? = some o) : ∀ j ∈ deps o, j < i := by
  intro j hj
  have := List.all_eq_true.1 h (o, i) (by
    rw [List.mem_zipIdx_iff_getElem?]; exact ho)
  have := List.all_eq_true.1 this j hj
  simpa using this

theorem lin_go {ops : List Oper} (hac : acyclic ops = true) : ∀ (fuel t : Nat) (listed : Array Bool) (acc : List Nat), listed.size = ops.length → ops.length ≤ fuel + (listed.toList.countP id) →
    ∃ l, Region.linearise.go .any ops.toArray fuel t listed acc = acc.reverse ++ l ∧ Lin ops (fun i => listed.getD i false = true) l
  | 0, t, listed, acc, hs, hf => by
    refine ⟨[], by simp [Region.linearise.go], .nil fun i hi => ?_⟩
    have hc : listed.toList.countP id = listed.toList.length := by
      have := List.countP_le_length (p := id) (l := listed.toList)
      have h2 : listed.toList.length = ops.length := by simpa using hs
      omega
    have := List.countP_eq_length.1 hc
    have hi' : i < listed.size := by omega
    have := this listed[i] (by simp)
    simpa [Array.getD_eq_getD_getElem?, hi'] using this
  | fuel + 1, t, listed, acc, hs, hf => by
    simp only [Region.linearise.go]
    generalize hrs : (List.range ops.toArray.size).filter (fun i => !listed.getD i true && ((ops.toArray[i]?).map (·.after.all fun e => !Region.binds .any e || listed.getD e.on false)).getD false) = rs
    cases hpick : rs[t % rs.length]? with
    | none =>
      refine ⟨[], by simp, .nil fun i hi => ?_⟩
      -- nothing is ready: all has come
      have hempty : rs = [] := by
        cases rs with
        | nil => rfl
        | cons r rs =>
          have := List.getElem?_eq_none_iff.1 hpick
          have := Nat.mod_lt t (show 0 < (r :: rs).length by simp)
          omega
      induction i using Nat.strongRecOn with
      | _ i ih =>
        cases hl : listed.getD i false with
        | true => rfl
        | false =>
          exfalso
          have hi' : i < listed.size := by omega
          obtain ⟨o, ho⟩ : ∃ o, ops[i]? = some o := ⟨ops[i], by simp [hi]⟩
          have hmem : i ∈ rs := by
            rw [← hrs, List.mem_filter]
            refine ⟨by simpa using hi, ?_⟩
            have h1 : listed.getD i true = false := by
              simp only [Array.getD_eq_getD_getElem?, Array.getElem?_eq_getElem hi', Option.getD_some] at hl ⊢
              exact hl
            rw [h1]
            simp only [List.getElem?_toArray, ho, Option.map_some, Option.getD_some, Bool.not_false, Bool.true_and]
            rw [Array.all_eq_true_iff_forall_mem]
            intro e he
            cases hb : Region.binds .any e with
            | false => simp
            | true =>
              have hd : e.on ∈ deps o := by
                simp only [deps, List.mem_map, List.mem_filter]
                exact ⟨e, ⟨by simpa using he, hb⟩, rfl⟩
              have hlt := acyclic_spec hac ho _ hd
              simpa using ih e.on hlt (by omega)
          rw [hempty] at hmem
          cases hmem
    | some i =>
      have hmem : i ∈ rs := List.mem_of_getElem? hpick
      rw [← hrs, List.mem_filter] at hmem
      obtain ⟨h1, h2⟩ := hmem
      have hi : i < ops.length := by simpa using h1
      have hi' : i < listed.size := by omega
      simp only [Bool.and_eq_true, Bool.not_eq_true'] at h2
      obtain ⟨h2, h3⟩ := h2
      obtain ⟨o, ho⟩ : ∃ o, ops[i]? = some o := ⟨ops[i], by simp [hi]⟩
      have hli : listed[i] = false := by
        simpa [Array.getD_eq_getD_getElem?, hi'] using h2
      have hcount : (listed.setIfInBounds i true).toList.countP id = listed.toList.countP id + 1 := by
        simp only [Array.toList_setIfInBounds]
        rw [List.countP_set (by simpa using hi')]
        simp [hli]
      obtain ⟨l, hl1, hl2⟩ := lin_go hac fuel (t / rs.length) (listed.setIfInBounds i true) (i :: acc) (by simpa using hs) (by omega)
      refine ⟨i :: l, by simp only []; rw [hl1]; simp, .cons ho (by simp [Array.getD_eq_getD_getElem?, hi', hli]) (fun j hj => ?_) ?_⟩
      · simp only [List.getElem?_toArray, ho, Option.map_some, Option.getD_some] at h3
        simp only [deps, List.mem_map, List.mem_filter] at hj
        obtain ⟨e, ⟨he, hb⟩, rfl⟩ := hj
        have := (Array.all_eq_true_iff_forall_mem.1 h3) e (by simpa using he)
        simpa [hb] using this
      · have he : (fun j => (listed.setIfInBounds i true).getD j false = true) = (fun j => j = i ∨ listed.getD j false = true) := by
          funext j
          simp only [Array.getD_eq_getD_getElem?, Array.getElem?_setIfInBounds, eq_iff_iff]
          by_cases hji : i = j
          · subst hji; simp [hi']
          · simp [hji, Ne.symm hji]
        rw [← he]
        exact hl2

theorem lin_linearise {ops : List Oper} (hac : acyclic ops = true) (t : Nat) : Lin ops (fun _ => False) (Region.linearise .any ops.toArray t) := by
  obtain ⟨l, h1, h2⟩ := lin_go hac ops.toArray.size t (Array.replicate ops.toArray.size false) [] (by simp) (by simp)
  unfold Region.linearise
  rw [h1]
  have he : (fun i => (Array.replicate ops.toArray.size false).getD i false = true) = fun _ => False := by
    funext i
    simp only [Array.getD_eq_getD_getElem?, Array.getElem?_replicate, eq_iff_iff, iff_false]
    split <;> simp
  rw [← he]
  simpa using h2

/-! ### What is known of the operations so far -/
def lookV : List (Nat × Value) → Nat → Option Value := look
/-- The slots of those that an operation hangs on. -/
def slotsOf (ops : List Oper) (V : List (Nat × Value)) : List Nat → List (Nat × Value)
  | [] => []
  | j :: js => match look V j with
    | some v => match ops[j]? with
      | some p => match p.dst with
        | some d => (d, v) :: slotsOf ops V js
        | none => slotsOf ops V js
      | none => slotsOf ops V js
    | none => slotsOf ops V js
def KD (ops : List Oper) (V : List (Nat × Value)) (o : Oper) (K : List (Nat × Value)) : List (Nat × Value) := slotsOf ops V (deps o) ++ K
def inV (V : List (Nat × Value)) (i : Nat) : Bool := (look V i).isSome
def readyV (V : List (Nat × Value)) (o : Oper) : Bool := (deps o).all (inV V)
def firstReady (hs : List Nat) (V : List (Nat × Value)) : List Oper → Nat → Option Nat
  | [], _ => none
  | o :: l, n => match inV V n || hs.contains n with
    | true => firstReady hs V l (n + 1)
    | false => match readyV V o with
      | true => some n
      | false => firstReady hs V l (n + 1)
def nextHeavy (V : List (Nat × Value)) : List Nat → Option Nat
  | [] => none
  | i :: is => match inV V i with
    | true => nextHeavy V is
    | false => some i
/-- All that is ready but operation i has come. -/
def closedBut (V : List (Nat × Value)) (i : Nat) : List Oper → Nat → Bool
  | [], _ => true
  | o :: l, n => (inV V n || Nat.beq n i || !readyV V o) && closedBut V i l (n + 1)
theorem closedBut_spec {V : List (Nat × Value)} {i : Nat} : ∀ {l : List Oper} {n : Nat}, closedBut V i l n = true → ∀ j o, l[j]? = some o → readyV V o = true → inV V (n + j) = true ∨ n + j = i
  | [], _, _, j, o, h, _ => by simp at h
  | p :: l, n, hc, j, o, h, hr => by
    simp only [closedBut, Bool.and_eq_true, Bool.or_eq_true] at hc
    cases j with
    | zero =>
      simp at h; subst h
      rcases hc.1 with (h1 | h1) | h1
      · exact .inl h1
      · exact .inr (Nat.eq_of_beq_eq_true h1)
      · simp [hr] at h1
    | succ j =>
      have := closedBut_spec hc.2 j o (by simpa using h) hr
      rwa [Nat.add_assoc, Nat.add_comm 1 j] at this

variable {c : Cx} {k : List Item} {K : List (Nat × Value)}

/-- Operation i gives v, whenever it comes behind those that it hangs on, as long as L is owned. -/
def Lt (c : Cx) (ops : List Oper) (K : List (Nat × Value)) (L : List Atom) (V : List (Nat × Value)) (i : Nat) (v : Value) : Prop :=
  ∃ o, ops[i]? = some o ∧ readyV V o = true ∧
    ((wants ops (KD ops V o K) o = some true ∧ Op1 c o (KD ops V o K) L (ret v L)) ∨ (wants ops (KD ops V o K) o = some false ∧ v = undef))

theorem slotsOf_congr {ops : List Oper} {V V' : List (Nat × Value)} : ∀ {l : List Nat}, (∀ j ∈ l, look V' j = look V j) → slotsOf ops V' l = slotsOf ops V l
  | [], _ => rfl
  | j :: l, h => by
    simp only [slotsOf, h j (by simp)]
    rw [slotsOf_congr (l := l) fun q hq => h q (by simp [hq])]
theorem Lt.mono {ops : List Oper} {L : List Atom} {V : List (Nat × Value)} {i j : Nat} {v u : Value} (h : Lt c ops K L V i v) (hj : inV V j = false) : Lt c ops K L ((j, u) :: V) i v := by
  obtain ⟨o, ho, hr, hf⟩ := h
  have hd : ∀ q ∈ deps o, look ((j, u) :: V) q = look V q := fun q hq => by
    rw [look_cons]
    have := List.all_eq_true.1 hr q hq
    by_cases e : j = q
    · subst e; rw [hj] at this; cases this
    · rw [if_neg e]
  have hK : KD ops ((j, u) :: V) o K = KD ops V o K := by unfold KD; rw [slotsOf_congr hd]
  refine ⟨o, ho, ?_, by rw [hK]; exact hf⟩
  refine List.all_eq_true.2 fun q hq => ?_
  unfold inV
  rw [hd q hq]
  exact List.all_eq_true.1 hr q hq

/-- The slots of what has come hold what it gave. -/
def Inv (ops : List Oper) (D : Nat → Prop) (V : List (Nat × Value)) (a : Act) : Prop :=
  ∀ i v, look V i = some v → D i → ∀ o d, ops[i]? = some o → o.dst = some d → a.tmps[d]? = some v

def DT (c : Cx) (ops : List Oper) (_hs : List Nat) (k : List Item) (K : List (Nat × Value)) (L : List Atom) (V : List (Nat × Value)) (hv : List Nat) (A : List Atom) : Prop :=
  (∀ i v, look V i = some v → i ∉ hv → Lt c ops K L V i v) →
  ∀ (D : Nat → Prop) (l : List Nat), (∀ i, D i → inV V i = true) → (∀ (i : Nat) (o : Oper), ops[i]? = some o → D i → ∀ j ∈ deps o, D j) → (∀ i ∈ hv, D i) → Lin ops D l →
  ∀ (b : Frame) (a : Act) (cs : List Frame) (w : World) (hx hr : Hp), c.P.funcs[c.fn]? = some c.func → b.fn = c.fn → b.kind = .normal → b.roundOf = c.ro →
    (c.ro ≠ none → cs ≠ []) → a.defers = c.ds → Kn c.func.ntmps K a → Inv ops D V a → G w (L ++ A) hx hr → Run c b a (.inRegion ops.toArray l :: k) cs w hx hr

/-- Slots: no two operations write one, none writes one of K's, each is one of the frame's. -/
def dstsOk (N : Nat) (K : List (Nat × Value)) : List Oper → List Nat → Bool
  | [], _ => true
  | o :: l, seen => match o.dst with
    | none => dstsOk N K l seen
    | some d => Nat.blt d N && !seen.contains d && (look K d).isNone && dstsOk N K l (d :: seen)
theorem dstsOk_spec {N : Nat} {K : List (Nat × Value)} : ∀ {l : List Oper} {seen : List Nat}, dstsOk N K l seen = true →
    (∀ (i : Nat) (o : Oper) (d : Nat), l[i]? = some o → o.dst = some d → d < N ∧ look K d = none ∧ d ∉ seen) ∧
    (∀ (i j : Nat) (o p : Oper) (d : Nat), l[i]? = some o → l[j]? = some p → o.dst = some d → p.dst = some d → i = j)
  | [], _, _ => ⟨fun i o d h => by simp at h, fun i j o p d h => by simp at h⟩
  | q :: l, seen, h => by
    unfold dstsOk at h
    cases hq : q.dst with
    | none =>
      simp only [hq] at h
      obtain ⟨h1, h2⟩ := dstsOk_spec h
      refine ⟨fun i o d ho hd => ?_, fun i j o p d ho hp hd hd' => ?_⟩
      · cases i with
        | zero => simp at ho; subst ho; rw [hq] at hd; cases hd
        | succ i => exact h1 i o d (by simpa using ho) hd
      · cases i with
        | zero => simp at ho; subst ho; rw [hq] at hd; cases hd
        | succ i => cases j with
          | zero => simp at hp; subst hp; rw [hq] at hd'; cases hd'
          | succ j => rw [h2 i j o p d (by simpa using ho) (by simpa using hp) hd hd']
    | some dq =>
      simp only [hq, Bool.and_eq_true, Bool.not_eq_true'] at h
      obtain ⟨⟨⟨hb, hc⟩, hn⟩, h⟩ := h
      obtain ⟨h1, h2⟩ := dstsOk_spec h
      have hc' : dq ∉ seen := by simpa using hc
      refine ⟨fun i o d ho hd => ?_, fun i j o p d ho hp hd hd' => ?_⟩
      · cases i with
        | zero => simp at ho; subst ho; rw [hq] at hd; cases hd; exact ⟨by simpa using hb, by simpa using hn, hc'⟩
        | succ i =>
          obtain ⟨a1, a2, a3⟩ := h1 i o d (by simpa using ho) hd
          exact ⟨a1, a2, fun hm => a3 (by simp [hm])⟩
      · cases i with
        | zero =>
          simp at ho; subst ho; rw [hq] at hd; cases hd
          cases j with
          | zero => rfl
          | succ j => exact absurd (by simp) (h1 j p _ (by simpa using hp) hd').2.2
        | succ i => cases j with
          | zero => simp at hp; subst hp; rw [hq] at hd'; cases hd'; exact absurd (by simp) (h1 i o _ (by simpa using ho) hd).2.2
          | succ j => rw [h2 i j o p d (by simpa using ho) (by simpa using hp) hd hd']

theorem Inv.put {ops : List Oper} {D : Nat → Prop} {V : List (Nat × Value)} {a : Act} {N : Nat} {i : Nat} {o : Oper} {v : Value} (hk : dstsOk N K ops [] = true) (hN : Kn N K a) (h : Inv ops D V a) (ho : ops[i]? = some o) (hv : look V i = some v) :
    Inv ops (fun j => j = i ∨ D j) V (a.put o.dst v) ∧ Kn N K (a.put o.dst v) := by
  obtain ⟨h1, h2⟩ := dstsOk_spec hk
  refine ⟨fun j u hu hD p d hp hd => ?_, ⟨?_, fun t u hu => ?_⟩⟩
  · cases hod : o.dst with
    | none =>
      have hji : j ≠ i := fun e => by subst e; rw [ho] at hp; cases hp; rw [hod] at hd; cases hd
      simp only [Act.put]
      exact h j u hu (hD.resolve_left hji) p d hp hd
    | some di =>
      simp only [Act.put, Array.getElem?_setIfInBounds]
      by_cases e : di = d
      · subst e
        have hij := h2 i j o p di ho hp hod hd
        subst hij
        rw [hv] at hu
        cases hu
        have := (h1 i o di ho hod).1
        have := hN.1
        rw [if_pos rfl, if_pos (by omega)]
      · rw [if_neg e]
        have hji : j ≠ i := fun e' => by subst e'; rw [ho] at hp; cases hp; rw [hod] at hd; cases hd; exact e rfl
        exact h j u hu (hD.resolve_left hji) p d hp hd
  · cases o.dst <;> simp [Act.put] <;> exact hN.1
  · cases hod : o.dst with
    | none => simp only [Act.put]; exact hN.2 t u hu
    | some di =>
      simp only [Act.put, Array.getElem?_setIfInBounds]
      have : di ≠ t := fun e => by
        subst e
        have := (h1 i o di ho hod).2.1
        rw [hu] at this; cases this
      rw [if_neg this]
      exact hN.2 t u hu

theorem Kn.KD {ops : List Oper} {D : Nat → Prop} {V : List (Nat × Value)} {a : Act} {N : Nat} {o : Oper} (hN : Kn N K a) (h : Inv ops D V a) (hD : ∀ j ∈ deps o, D j) : Kn N (KD ops V o K) a := by
  refine ⟨hN.1, ?_⟩
  unfold SL.KD
  generalize deps o = l at hD
  induction l with
  | nil => simpa [slotsOf] using hN.2
  | cons j l ih =>
    have ih' := ih fun q hq => hD q (by simp [hq])
    simp only [slotsOf]
    split
    · rename_i v hv
      split
      · rename_i p hp
        split
        · rename_i d hd
          intro t u hu
          rw [List.cons_append, look_cons] at hu
          by_cases e : d = t
          · subst e
            rw [if_pos rfl] at hu
            cases hu
            exact h j v hv (hD j (by simp)) p d hp hd
          · rw [if_neg e] at hu; exact ih' t u hu
        · exact ih'
      · exact ih'
    · exact ih'

/-- One operation that only reads or computes. -/
theorem DT.light {ops : List Oper} {hs : List Nat} {L A : List Atom} {V : List (Nat × Value)} {hv : List Nat} (i : Nat) {o : Oper} {v : Value} (_ : firstReady hs V ops 0 = some i) (hi : inV V i = false) (ho : ops[i]? = some o)
    (hr : readyV V o = true) (hw : wants ops (KD ops V o K) o = some true) (hop : Op1 c o (KD ops V o K) L (ret v L)) (h : DT c ops hs k K L ((i, v) :: V) hv A) : DT c ops hs k K L V hv A := by
  intro hl D l hD hC hH hlin b a cs w hx hr' h0 h1 h2 h3 h4 h5 h6 h7 h8
  refine h ?_ D l ?_ hC hH hlin b a cs w hx hr' h0 h1 h2 h3 h4 h5 h6 ?_ h8
  · intro j u hu hj
    rw [look_cons] at hu
    by_cases e : i = j
    · subst e
      rw [if_pos rfl] at hu
      cases hu
      exact Lt.mono ⟨o, ho, hr, .inl ⟨hw, hop⟩⟩ hi
    · rw [if_neg e] at hu
      exact (hl j u hu hj).mono hi
  · intro j hj
    have := hD j hj
    unfold inV at this ⊢
    rw [look_cons]
    split
    · rfl
    · exact this
  · intro j u hu hj p d hp hd
    rw [look_cons] at hu
    by_cases e : i = j
    · subst e
      have := hD i hj
      rw [hi] at this; cases this
    · rw [if_neg e] at hu; exact h7 j u hu hj p d hp hd
theorem DT.pass {ops : List Oper} {hs : List Nat} {L A : List Atom} {V : List (Nat × Value)} {hv : List Nat} (i : Nat) {o : Oper} (_ : firstReady hs V ops 0 = some i) (hi : inV V i = false) (ho : ops[i]? = some o)
    (hr : readyV V o = true) (hw : wants ops (KD ops V o K) o = some false) (h : DT c ops hs k K L ((i, undef) :: V) hv A) : DT c ops hs k K L V hv A := by
  intro hl D l hD hC hH hlin b a cs w hx hr' h0 h1 h2 h3 h4 h5 h6 h7 h8
  refine h ?_ D l ?_ hC hH hlin b a cs w hx hr' h0 h1 h2 h3 h4 h5 h6 ?_ h8
  · intro j u hu hj
    rw [look_cons] at hu
    by_cases e : i = j
    · subst e
      rw [if_pos rfl] at hu
      cases hu
      exact Lt.mono ⟨o, ho, hr, .inr ⟨hw, rfl⟩⟩ hi
    · rw [if_neg e] at hu
      exact (hl j u hu hj).mono hi
  · intro j hj
    have := hD j hj
    unfold inV at this ⊢
    rw [look_cons]
    split
    · rfl
    · exact this
  · intro j u hu hj p d hp hd
    rw [look_cons] at hu
    by_cases e : i = j
    · subst e
      have := hD i hj
      rw [hi] at this; cases this
    · rw [if_neg e] at hu; exact h7 j u hu hj p d hp hd

/-- A light operation, when its turn comes. -/
theorem Lt.run {ops : List Oper} {L A : List Atom} {V : List (Nat × Value)} {i : Nat} {v : Value} {D : Nat → Prop} {o : Oper} {b : Frame} {a : Act} {cs : List Frame} {w : World} {hx hr : Hp} {l : List Nat}
    (h : Lt c ops K L V i v) (ho : ops[i]? = some o) (hD : ∀ j ∈ deps o, D j) (h2 : b.kind = .normal) (h3 : b.roundOf = c.ro) (h6 : Kn c.func.ntmps K a) (h7 : Inv ops D V a) (h8 : G w (L ++ A) hx hr) :
    ∃ w' hx' hr', G w' (L ++ A) hx' hr' ∧ Stp w hx hr w' hx' hr' ∧ Steps c.P (lone (b.atR a (.inRegion ops.toArray (i :: l) :: k)) cs w) (lone (b.atR (a.put o.dst v) (.inRegion ops.toArray l :: k)) cs w') := by
  obtain ⟨o', ho', _, hf⟩ := h
  rw [ho] at ho'
  cases ho'
  have hK := Kn.KD (o := o) h6 h7 hD
  rcases hf with ⟨hw, hop⟩ | ⟨hw, rfl⟩
  · obtain ⟨h1', h2', j, sL, sA⟩ := Sat.append.1 h8.sat
    have gL : G w L h1' hr := ⟨sL, fun q u e => h8.own q u (j.left e), h8.red, fun q => (h8.dj q).imp (fun h => (j.isNone.1 h).1) id⟩
    obtain ⟨v', w', H', hx', hr', ⟨rfl, rfl⟩, g', st, s⟩ := hop ops.toArray b a cs k l i w h1' hr (by simpa using ho) (wants_sound hw hK) h2 h3 hK gL
    obtain ⟨hx2, g2, st2⟩ := G.frame j h8.own h8.dj st g' sA
    exact ⟨w', hx2, hr', g2, st2, s⟩
  · refine ⟨w, hx, hr, h8, Stp.refl _ _ _, .one ?_⟩
    have hs := stepR_op_skip (P := c.P) (b := b) (a := a) (k := k) (cs := cs) (w := w) (ops := ops.toArray) (i := i) (rest := l) (by
      have : (ops.toArray)[i]? = some o := by simpa using ho
      rw [this]; simpa using wants_sound hw hK)
    have ho' : (ops.toArray)[i]? = some o := by simpa using ho
    rw [ho', Option.bind_some] at hs
    exact hs

theorem Lin.closed {ops : List Oper} {D : Nat → Prop} {i : Nat} {o : Oper} (hC : ∀ (i : Nat) (o : Oper), ops[i]? = some o → D i → ∀ j ∈ deps o, D j) (ho : ops[i]? = some o) (hd : ∀ j ∈ deps o, D j) :
    ∀ (m : Nat) (p : Oper), ops[m]? = some p → (m = i ∨ D m) → ∀ j ∈ deps p, (j = i ∨ D j) := by
  rintro m p hp (rfl | hm) j hj
  · rw [ho] at hp; cases hp; exact .inr (hd j hj)
  · exact .inr (hC m p hp hm j hj)
/-- Light operations come till it is another one's turn, or the end. -/
theorem DT.lights {ops : List Oper} {L A : List Atom} {V : List (Nat × Value)} {hv : List Nat} (hk : dstsOk c.func.ntmps K ops [] = true)
    (hl : ∀ i v, look V i = some v → i ∉ hv → Lt c ops K L V i v)
    (next : ∀ (D : Nat → Prop) (l : List Nat), (∀ i, D i → inV V i = true) → (∀ (i : Nat) (o : Oper), ops[i]? = some o → D i → ∀ j ∈ deps o, D j) → (∀ i ∈ hv, D i) → Lin ops D l → (l = [] ∨ ∃ i l', l = i :: l' ∧ inV V i = false) →
      ∀ (b : Frame) (a : Act) (cs : List Frame) (w : World) (hx hr : Hp), c.P.funcs[c.fn]? = some c.func → b.fn = c.fn → b.kind = .normal → b.roundOf = c.ro →
        (c.ro ≠ none → cs ≠ []) → a.defers = c.ds → Kn c.func.ntmps K a → Inv ops D V a → G w (L ++ A) hx hr → Run c b a (.inRegion ops.toArray l :: k) cs w hx hr) :
    ∀ (l : List Nat) (D : Nat → Prop), (∀ i, D i → inV V i = true) → (∀ (i : Nat) (o : Oper), ops[i]? = some o → D i → ∀ j ∈ deps o, D j) → (∀ i ∈ hv, D i) → Lin ops D l →
      ∀ (b : Frame) (a : Act) (cs : List Frame) (w : World) (hx hr : Hp), c.P.funcs[c.fn]? = some c.func → b.fn = c.fn → b.kind = .normal → b.roundOf = c.ro →
        (c.ro ≠ none → cs ≠ []) → a.defers = c.ds → Kn c.func.ntmps K a → Inv ops D V a → G w (L ++ A) hx hr → Run c b a (.inRegion ops.toArray l :: k) cs w hx hr
  | [], D, hD, hC, hH, hlin => next D [] hD hC hH hlin (.inl rfl)
  | i :: l, D, hD, hC, hH, hlin => by
    intro b a cs w hx hr h0 h1 h2 h3 h4 h5 h6 h7 h8
    cases hin : inV V i with
    | false => exact next D _ hD hC hH hlin (.inr ⟨i, l, rfl, hin⟩) b a cs w hx hr h0 h1 h2 h3 h4 h5 h6 h7 h8
    | true =>
      cases hlin with
      | @cons _ _ o _ ho hnD hdeps hrest =>
        obtain ⟨v, hv'⟩ := Option.isSome_iff_exists.1 hin
        have hLt := hl i v hv' (fun hm => hnD (hH i hm))
        obtain ⟨w', hx', hr', g', st, s⟩ := hLt.run (k := k) (cs := cs) (l := l) ho hdeps h2 h3 h6 h7 h8
        obtain ⟨hI, hK⟩ := Inv.put hk h6 h7 ho hv'
        refine Run.step s st ?_
        refine DT.lights hk hl next l (fun j => j = i ∨ D j) (fun j hj => ?_) (Lin.closed hC ho hdeps) (fun j hj => .inr (hH j hj)) hrest b _ cs w' hx' hr' h0 h1 h2 h3 h4 ((put_defers a _ v).trans h5) hK hI g'
        rcases hj with rfl | hj
        · exact hin
        · exact hD j hj

/-- An operation that turns memory: A alone; what may still come late reads L. -/
theorem DT.heavy {ops : List Oper} {hs : List Nat} {L A : List Atom} {V : List (Nat × Value)} {hv : List Nat} (hk : dstsOk c.func.ntmps K ops [] = true) (i : Nat) {o : Oper} {Q : Value → List Atom → Prop} (_ : nextHeavy V hs = some i) (hi : inV V i = false)
    (ho : ops[i]? = some o) (hcl : closedBut V i ops 0 = true) (hw : wants ops (KD ops V o K) o = some true) (hop : Op1 c o (KD ops V o K) A Q)
    (h : ∀ v A', Q v A' → DT c ops hs k K L ((i, v) :: V) (i :: hv) A') : DT c ops hs k K L V hv A := by
  intro hl D l hD hC hH hlin
  refine DT.lights hk hl ?_ l D hD hC hH hlin
  intro D l hD hC hH hlin hcase b a cs w hx hr' h0 h1 h2 h3 h4 h5 h6 h7 h8
  rcases hcase with rfl | ⟨j, l', rfl, hj⟩
  · cases hlin with
    | nil hall =>
      have hil : i < ops.length := (List.getElem?_eq_some_iff.1 ho).1
      have := hD i (hall i hil)
      rw [hi] at this; cases this
  · cases hlin with
    | @cons _ _ p _ hp hnD hdeps hrest =>
      have hrp : readyV V p = true := List.all_eq_true.2 fun q hq => hD q (hdeps q hq)
      have hji : j = i := by
        rcases closedBut_spec hcl j p hp hrp with h | h
        · rw [Nat.zero_add, hj] at h; cases h
        · omega
      subst hji
      rw [ho] at hp
      cases hp
      have hKD := Kn.KD (o := o) h6 h7 hdeps
      obtain ⟨h1', h2', jn, sL, sA⟩ := Sat.append.1 h8.sat
      have gA : G w A h2' hr' := ⟨sA, fun q u e => h8.own q u (jn.right e), h8.red, fun q => (h8.dj q).imp (fun h => (jn.isNone.1 h).2) id⟩
      obtain ⟨v, w', A', hx2, hr2, q, g', st, s⟩ := hop ops.toArray b a cs k l' j w h2' hr' (by simpa using ho) (wants_sound hw hKD) h2 h3 hKD gA
      obtain ⟨hx3, g3, st3⟩ := G.frame jn.comm h8.own h8.dj st g' sL
      have g4 : G w' (L ++ A') hx3 hr2 := ⟨g3.sat.perm List.perm_append_comm, g3.own, g3.red, g3.dj⟩
      have hlook : look ((j, v) :: V) j = some v := by rw [look_cons, if_pos rfl]
      have hInv0 : Inv ops D ((j, v) :: V) a := by
        intro m u hu hm p d hp hd
        rw [look_cons] at hu
        by_cases e : j = m
        · subst e; exact absurd hm hnD
        · rw [if_neg e] at hu; exact h7 m u hu hm p d hp hd
      obtain ⟨hI, hK⟩ := Inv.put hk h6 hInv0 ho hlook
      refine Run.step s st3 ?_
      refine h v A' q ?_ (fun m => m = j ∨ D m) l' ?_ (Lin.closed hC ho hdeps) ?_ hrest b _ cs w' hx3 hr2 h0 h1 h2 h3 h4 ((put_defers a _ v).trans h5) hK hI g4
      · intro m u hu hm
        rw [look_cons] at hu
        have hne : j ≠ m := fun e => hm (by simp [e])
        rw [if_neg hne] at hu
        exact (hl m u hu (fun h => hm (by simp [h]))).mono hi
      · intro m hm
        unfold inV
        rw [look_cons]
        split
        · rfl
        · rename_i hne
          rcases hm with rfl | hm
          · exact absurd rfl hne
          · exact hD m hm
      · intro m hm
        rcases List.mem_cons.1 hm with rfl | hm
        · exact .inl rfl
        · exact .inr (hH m hm)

/-- All on which an operation hangs, near and far. -/
def hangs (ops : List Oper) : Nat → Nat → List Nat
  | 0, _ => []
  | n + 1, i => match ops[i]? with
    | some o => (deps o).flatMap fun j => j :: hangs ops n j
    | none => []
/-- What has been taken for done up to now is all behind operation i. -/
def barred (ops : List Oper) (V : List (Nat × Value)) (hv : List Nat) (i : Nat) : Bool :=
  let far := hangs ops 60 i
  V.all fun p => hv.contains p.1 || far.contains p.1
theorem hangs_done {ops : List Oper} {D : Nat → Prop} (hcl : ∀ i o, ops[i]? = some o → D i → ∀ j ∈ deps o, D j) : ∀ (n i : Nat) (o : Oper), ops[i]? = some o → (∀ j ∈ deps o, D j) → ∀ j ∈ hangs ops n i, D j
  | 0, _, _, _, _, j, hj => by simp [hangs] at hj
  | n + 1, i, o, ho, hd, j, hj => by
    simp only [hangs, ho, List.mem_flatMap, List.mem_cons] at hj
    obtain ⟨q, hq, rfl | hj⟩ := hj
    · exact hd _ hq
    · cases hoq : ops[q]? with
      | none => cases n <;> simp [hangs, hoq] at hj
      | some p => exact hangs_done hcl n q p hoq (hcl q p hoq (hd q hq)) j hj


/-- An operation behind all that has come: what is owned may be turned as a whole. -/
theorem DT.bar {ops : List Oper} {hs : List Nat} {L A : List Atom} {V : List (Nat × Value)} {hv : List Nat} (hk : dstsOk c.func.ntmps K ops [] = true) (i : Nat) {o : Oper} {Q : Value → List Atom → Prop} (_ : nextHeavy V hs = some i) (hi : inV V i = false)
    (ho : ops[i]? = some o) (hcl : closedBut V i ops 0 = true) (hba : barred ops V hv i = true) (hw : wants ops (KD ops V o K) o = some true) (hop : Op1 c o (KD ops V o K) (L ++ A) Q)
    (h : ∀ v H', Q v H' → DT c ops hs k K H' ((i, v) :: V) (i :: V.map (·.1)) []) : DT c ops hs k K L V hv A := by
  intro hl D l hD hC hH hlin
  refine DT.lights hk hl ?_ l D hD hC hH hlin
  intro D l hD hC hH hlin hcase b a cs w hx hr' h0 h1 h2 h3 h4 h5 h6 h7 h8
  rcases hcase with rfl | ⟨j, l', rfl, hj⟩
  · cases hlin with
    | nil hall =>
      have hil : i < ops.length := (List.getElem?_eq_some_iff.1 ho).1
      have := hD i (hall i hil)
      rw [hi] at this; cases this
  · cases hlin with
    | @cons _ _ p _ hp hnD hdeps hrest =>
      have hrp : readyV V p = true := List.all_eq_true.2 fun q hq => hD q (hdeps q hq)
      have hji : j = i := by
        rcases closedBut_spec hcl j p hp hrp with h | h
        · rw [Nat.zero_add, hj] at h; cases h
        · omega
      subst hji
      rw [ho] at hp
      cases hp
      have hKD := Kn.KD (o := o) h6 h7 hdeps
      obtain ⟨v, w', H', hx2, hr2, q, g', st, s⟩ := hop ops.toArray b a cs k l' j w hx hr' (by simpa using ho) (wants_sound hw hKD) h2 h3 hKD h8
      have hlook : look ((j, v) :: V) j = some v := by rw [look_cons, if_pos rfl]
      have hInv0 : Inv ops D ((j, v) :: V) a := by
        intro m u hu hm p d hp hd
        rw [look_cons] at hu
        by_cases e : j = m
        · subst e; exact absurd hm hnD
        · rw [if_neg e] at hu; exact h7 m u hu hm p d hp hd
      obtain ⟨hI, hK⟩ := Inv.put hk h6 hInv0 ho hlook
      have hfar := hangs_done hC 60 j o ho hdeps
      refine Run.step s st ?_
      refine h v H' q ?_ (fun m => m = j ∨ D m) l' ?_ (Lin.closed hC ho hdeps) ?_ hrest b _ cs w' hx2 hr2 h0 h1 h2 h3 h4 ((put_defers a _ v).trans h5) hK hI (by simpa using g')
      · intro m u hu hm
        rw [look_cons] at hu
        have hne : j ≠ m := fun e => hm (by simp [e])
        rw [if_neg hne] at hu
        have hmem : ∀ (V : List (Nat × Value)), look V m = some u → m ∈ V.map (·.1) := by
          intro V
          induction V with
          | nil => intro h; simp [look] at h
          | cons p V ih =>
            intro h
            obtain ⟨n, x⟩ := p
            rw [look_cons] at h
            by_cases e : n = m
            · simp [e]
            · rw [if_neg e] at h; simp [ih h]
        exact absurd (by simp [hmem V hu]) hm
      · intro m hm
        unfold inV
        rw [look_cons]
        split
        · rfl
        · rename_i hne
          rcases hm with rfl | hm
          · exact absurd rfl hne
          · exact hD m hm
      · intro m hm
        rcases List.mem_cons.1 hm with rfl | hm
        · exact .inl rfl
        · obtain ⟨p, hp, rfl⟩ := List.mem_map.1 hm
          have := List.all_eq_true.1 hba p hp
          simp only [Bool.or_eq_true, List.contains_eq_mem, decide_eq_true_eq] at this
          rcases this with h | h
          · exact .inr (hH _ h)
          · exact .inr (hfar _ h)

def allV (V : List (Nat × Value)) : List Oper → Nat → Bool
  | [], _ => true
  | _ :: l, n => inV V n && allV V l (n + 1)
theorem allV_spec {V : List (Nat × Value)} : ∀ {l : List Oper} {n : Nat}, allV V l n = true → ∀ j, j < l.length → inV V (n + j) = true
  | [], _, _, j, h => by simp at h
  | p :: l, n, hc, j, h => by
    simp only [allV, Bool.and_eq_true] at hc
    cases j with
    | zero => exact hc.1
    | succ j =>
      have := allV_spec hc.2 j (by simpa using h)
      rwa [Nat.add_assoc, Nat.add_comm 1 j] at this
/-- All have come. -/
def outV (ops : List Oper) : List (Nat × Value) → List (Nat × Value)
  | [] => []
  | (i, v) :: V => match ops[i]? with
    | some o => match o.dst with
      | some d => (d, v) :: outV ops V
      | none => outV ops V
    | none => outV ops V
def nodupV : List (Nat × Value) → Bool
  | [] => true
  | (i, _) :: V => !inV V i && nodupV V
theorem Kn.outV {ops : List Oper} {V : List (Nat × Value)} {a : Act} {N : Nat} (hN : Kn N K a) (h : Inv ops (fun _ => True) V a) (hnd : nodupV V = true) : Kn N (outV ops V ++ K) a := by
  refine ⟨hN.1, ?_⟩
  induction V with
  | nil => simpa [SL.outV] using hN.2
  | cons p V ih =>
    obtain ⟨i, v⟩ := p
    simp only [nodupV, Bool.and_eq_true, Bool.not_eq_true'] at hnd
    have ih' := ih (fun j u hu _ o d ho hd => by
      refine h j u ?_ trivial o d ho hd
      rw [look_cons]
      have : i ≠ j := fun e => by subst e; have := hnd.1; unfold inV at this; rw [hu] at this; cases this
      rw [if_neg this]; exact hu) hnd.2
    simp only [SL.outV]
    split
    · rename_i o ho
      split
      · rename_i d hd
        intro t u hu
        rw [List.cons_append, look_cons] at hu
        by_cases e : d = t
        · subst e
          rw [if_pos rfl] at hu
          cases hu
          exact h i v (by rw [look_cons, if_pos rfl]) trivial o d ho hd
        · rw [if_neg e] at hu; exact ih' t u hu
      · exact ih'
    · exact ih'
theorem DT.done {ops : List Oper} {hs : List Nat} {L A : List Atom} {V : List (Nat × Value)} {hv : List Nat} (hk : dstsOk c.func.ntmps K ops [] = true) (hall : allV V ops 0 = true) (hnd : nodupV V = true) (h : T c k (outV ops V ++ K) (L ++ A)) : DT c ops hs k K L V hv A := by
  intro hl D l hD hC hH hlin
  refine DT.lights hk hl ?_ l D hD hC hH hlin
  intro D l hD hC hH hlin hcase b a cs w hx hr h0 h1 h2 h3 h4 h5 h6 h7 h8
  rcases hcase with rfl | ⟨j, l', rfl, hj⟩
  · cases hlin with
    | nil hi =>
      have hI : Inv ops (fun _ => True) V a := fun i v hv _ o d ho hd => h7 i v hv (hi i (List.getElem?_eq_some_iff.1 ho).1) o d ho hd
      exact Run.step (.one stepR_region_end) (Stp.refl w hx hr) (h b a cs w hx hr h0 h1 h2 h3 h4 h5 (h6.outV hI hnd) h8)
  · cases hlin with
    | @cons _ _ p _ hp hnD hdeps hrest =>
      have := allV_spec hall j (List.getElem?_eq_some_iff.1 hp).1
      rw [Nat.zero_add, hj] at this; cases this

/-- A region that draws its order: hs are those of its operations that turn memory, L what the others may read at any time. -/
theorem T.draw {id : Nat} {ops : List Oper} {K' : List (Nat × Value)} {H L A : List Atom} (hs : List Nat) (hm : c.P.follows .mixedOrders = true) (hac : acyclic ops = true) (hK : SubK K' K) (hp : H.Perm (L ++ A))
    (h : DT c ops hs k K' L [] [] A) : T c (.code (.region id ops.toArray true) :: k) K H := by
  intro b a cs w hx hr h0 h1 h2 h3 h4 h5 h6 h7
  have hstep := stepR_region_draw (P := c.P) (b := b) (a := a) (k := k) (cs := cs) (w := w) (ops := ops.toArray) (id := id)
  have hsch : ∀ t, Region.schedule (c.P.follows .mixedOrders) ops.toArray t = Region.linearise .any ops.toArray t := fun t => by unfold Region.schedule; rw [hm]; rfl
  rw [hsch] at hstep
  have g : G { w with drawn := w.drawn + 1 } (L ++ A) hx hr := ⟨h7.sat.perm hp, h7.own, h7.red, h7.dj⟩
  have st : Stp w hx hr { w with drawn := w.drawn + 1 } hx hr := ⟨rfl, rfl, rfl, Nat.le_refl _, fun _ _ _ => rfl, fun _ h _ => h, Hp.le_refl _, fun _ _ h _ => h⟩
  refine Run.step (.one hstep) st ?_
  exact h (fun i v hv => by simp [look] at hv) (fun _ => False) _ (fun _ h => h.elim) (fun _ _ _ h => h.elim) (fun i hi => by simp at hi) (lin_linearise hac _) b a cs _ hx hr h0 h1 h2 h3 h4 h5 (h6.sub hK)
    (fun i v hv => by simp [look] at hv) g
/-- The slots that the region writes are left out. -/
def keepK (ops : List Oper) (K : List (Nat × Value)) : List (Nat × Value) :=
  K.filter fun p => ops.all fun o => match o.dst with | some d => !(Nat.beq d p.1) | none => true

end Go.SL
