/- When nothing is lost any more: what two peers come to. On plain lists; no program here. -/
import Derived.Test.YtdnjjodjglikjaaKa
namespace Go.Proofs.Ytdnjjodjglikjaa
open Go Go.SL

structure Pair (m w : Nat) (A B : PG) : Prop where
  d : Dir m A B []
  e : Dir m B A []
  na : A.F.length ≤ 100000
  nb : B.F.length ≤ 100000
  cka : A.ck < w
  ckb : B.ck < w
theorem Pair.symm {m w : Nat} {A B : PG} (h : Pair m w A B) : Pair m w B A := ⟨h.e, h.d, h.nb, h.na, h.ckb, h.cka⟩
theorem LInv.pair {m w c : Nat} {A B : PG} {P Q : List Pk} (h : LInv m w c ⟨A, B, P, Q⟩) (hc : c ≤ 100000) : Pair m w A B :=
  ⟨h.ab.sub (by simp), h.ba.sub (by simp), by have := h.oka.sent; dsimp only at this; omega, by have := h.okb.sent; dsimp only at this; omega, h.cka, h.ckb⟩
theorem good0 {A : PG} {x : Pk} (h : Gen A x) (hs : ∀ y ∈ A.F, y.size ≤ 65536) (hn : A.F.length ≤ 100000) (hu : A.u ≤ 100000) : goodK x = true := by
  obtain ⟨h1, h2, h3, h4⟩ := h
  unfold goodK numB
  rcases h4 with ⟨e1, e2⟩ | ⟨n, n0, e1, e2⟩
  · obtain ⟨x1, x2, x3, x4⟩ := x
    dsimp only at h1 h2 h3 e1 e2 ⊢
    rw [h1, e1, e2]
    simp only [Bool.and_eq_true, Bool.or_eq_true, decide_eq_true_eq]
    exact ⟨⟨⟨⟨by omega, by omega⟩, by omega⟩, by decide⟩, .inr trivial⟩
  · have hl := (List.getElem?_eq_some_iff.1 e2).1
    have hz := hs _ (List.mem_of_getElem? e2)
    obtain ⟨x1, x2, x3, x4⟩ := x
    dsimp only at h1 h2 h3 e1 e2 hz ⊢
    rw [h1, e1]
    simp only [Bool.and_eq_true, Bool.or_eq_true, decide_eq_true_eq]
    exact ⟨⟨⟨⟨by omega, by omega⟩, by omega⟩, hz⟩, .inl (by omega)⟩
theorem hear_keep (m : Nat) (g : PG) (x : Pk) : (hearG m g x).1.F = g.F ∧ (hearG m g x).1.td = g.td ∧ (hearG m g x).1.ag = g.ag := by
  unfold hearG
  split
  · exact ⟨rfl, rfl, rfl⟩
  split
  · exact ⟨rfl, rfl, rfl⟩
  split
  · exact ⟨rfl, rfl, rfl⟩
  split <;> exact ⟨rfl, rfl, rfl⟩
theorem hear_pair {m w : Nat} {A B : PG} {x : Pk} (h : Pair m w A B) (hx : Gen A x) :
    Pair m w A (hearG m B x).1 ∧ B.u ≤ (hearG m B x).1.u ∧ B.a ≤ (hearG m B x).1.a ∧ (x.2.2.1 = A.u → (hearG m B x).1.a = A.u) ∧ (x.2.1 = 0 → (hearG m B x).1.ow = B.ow) ∧
      ∀ n : Nat, 0 < n → x.2.1 = n → (hearG m B x).1.ow = true ∧ (n ≤ B.u + 1 → n ≤ (hearG m B x).1.u) := by
  obtain ⟨d, e, na, nb, cka, ckb⟩ := h
  have he := e.upto
  have hea := e.ack
  have hbe := e.epoch
  have hgood := good0 hx d.small na (by omega)
  obtain ⟨x1, x2, x3, x4⟩ := hx
  have hsk := skipN_to x.2.2.1 B.a B.F.length A.u x2 x3 hea
  have hskk : x.2.2.1 = A.u → B.a + skipN (x.2.2.1 - B.a) (B.F.length - B.a) = A.u := fun h => by unfold skipN; omega
  have hck2 : (ackG B x.2.2.1).ck < w := by
    unfold ackG
    dsimp only
    split <;> omega
  have hwin := e.win
  unfold hearG
  rw [if_neg (by rw [hgood]; simp; omega), if_neg (by rw [x1, hbe]; simp)]
  rcases x4 with ⟨s1, s2⟩ | ⟨n, n0, s1, s2⟩
  · rw [if_pos s1]
    refine ⟨⟨⟨d.epoch, d.ack, d.upto, d.early, d.next, d.win, d.small, d.way⟩, ⟨hbe, hsk, he, e.early, e.next, ?_, e.small, by simp⟩, na, nb, cka, hck2⟩, Nat.le_refl _, Nat.le_add_right _ _, hskk, fun _ => rfl, fun n n0 hn => ?_⟩
    · show B.F.length ≤ B.a + _ + m
      omega
    · omega
  · obtain ⟨o1, o2, o3, o4, o5, o6, o7, o8⟩ := come_of (most := m) (A := A.a) d.upto d.ack d.win d.early d.next n0 s2
    rw [if_neg (by omega), s1, if_neg (by rw [o1]; simp)]
    refine ⟨⟨⟨d.epoch, Nat.le_trans d.ack o5, o6, o2, o3, d.win, d.small, d.way⟩, ⟨hbe, hsk, he, e.early, e.next, ?_, e.small, by simp⟩, na, nb, cka, hck2⟩, o5, Nat.le_add_right _ _, hskk, fun h => by omega, fun n' n0' hn => ⟨rfl, fun hle => ?_⟩⟩
    · show B.F.length ≤ B.a + _ + m
      omega
    · have : n' = n := by omega
      subst this
      show n' ≤ (come m B.u B.E n' x.2.2.2).2.1
      rcases o8 with h | h
      · omega
      · apply Classical.byContradiction
        intro hlt
        have hu : (come m B.u B.E n' x.2.2.2).2.1 = B.u := by omega
        have hn' : n' = B.u + 1 := by omega
        rw [hu, show (B.u : Int) + 1 = (n' : Int) from by omega] at o3
        rw [o3] at h
        cases h

def hearAll (m : Nat) : PG → List Pk → PG
  | g, [] => g
  | g, x :: l => hearAll m (hearG m g x).1 l
theorem hearAll_keep (m : Nat) (l : List Pk) : ∀ g : PG, (hearAll m g l).F = g.F ∧ (hearAll m g l).td = g.td ∧ (hearAll m g l).ag = g.ag := by
  induction l with
  | nil => exact fun g => ⟨rfl, rfl, rfl⟩
  | cons x l ih =>
    intro g
    obtain ⟨h1, h2, h3⟩ := hear_keep m g x
    obtain ⟨i1, i2, i3⟩ := ih (hearG m g x).1
    exact ⟨i1.trans h1, i2.trans h2, i3.trans h3⟩
theorem hearAll_pair {m w : Nat} {A : PG} (l : List Pk) : ∀ {B : PG}, Pair m w A B → (∀ x ∈ l, Gen A x) → Pair m w A (hearAll m B l) ∧ B.u ≤ (hearAll m B l).u ∧ B.a ≤ (hearAll m B l).a := by
  induction l with
  | nil => exact fun h _ => ⟨h, Nat.le_refl _, Nat.le_refl _⟩
  | cons x l ih =>
    intro B h hl
    obtain ⟨p1, p2, p3, _⟩ := hear_pair h (hl x (by simp))
    obtain ⟨i1, i2, i3⟩ := ih p1 fun y hy => hl y (by simp [hy])
    exact ⟨i1, Nat.le_trans p2 i2, Nat.le_trans p3 i3⟩
theorem hearAll_a {m w : Nat} {A : PG} (l : List Pk) : ∀ {B : PG}, Pair m w A B → (∀ x ∈ l, Gen A x ∧ x.2.2.1 = A.u) → (B.a = A.u ∨ l ≠ []) → (hearAll m B l).a = A.u := by
  induction l with
  | nil => exact fun _ _ h => h.resolve_right (by simp)
  | cons x l ih =>
    intro B h hl _
    obtain ⟨g1, g2⟩ := hl x (by simp)
    obtain ⟨p1, _, _, p4, _⟩ := hear_pair h g1
    exact ih p1 (fun y hy => hl y (by simp [hy])) (.inl (p4 g2))
theorem hearAll_ow {m w : Nat} {A : PG} (l : List Pk) : ∀ {B : PG}, Pair m w A B → (∀ x ∈ l, Gen A x ∧ x.2.1 = 0) → (hearAll m B l).ow = B.ow := by
  induction l with
  | nil => exact fun _ _ => rfl
  | cons x l ih =>
    intro B h hl
    obtain ⟨g1, g2⟩ := hl x (by simp)
    obtain ⟨p1, _, _, _, p5, _⟩ := hear_pair h g1
    exact (ih p1 (fun y hy => hl y (by simp [hy]))).trans (p5 g2)
theorem pkG_gen {A : PG} (h : A.ep = 3) {j : Nat} (hj : j < A.F.length) : Gen A (pkG A j) := by
  refine ⟨h, by simp only [pkG]; omega, Int.le_refl _, .inr ⟨j + 1, by omega, rfl, ?_⟩⟩
  show A.F[j + 1 - 1]? = some (A.F.getD j ⟨#[]⟩)
  rw [Nat.add_sub_cancel, List.getD_eq_getElem?_getD, List.getElem?_eq_getElem hj]
  rfl
theorem hearAll_due {m w : Nat} {A : PG} : ∀ (k j : Nat) {B : PG}, Pair m w A B → j + k ≤ A.F.length → j ≤ B.u →
    j + k ≤ (hearAll m B ((List.range' j k).map (pkG A))).u ∧ (B.ow = true ∨ 0 < k → (hearAll m B ((List.range' j k).map (pkG A))).ow = true)
  | 0, j, B, h, hj, hu => ⟨by simpa [hearAll] using hu, fun h => by simpa [hearAll] using h⟩
  | k + 1, j, B, h, hj, hu => by
    rw [List.range'_succ, List.map_cons]
    obtain ⟨p1, p2, _, _, _, p6⟩ := hear_pair h (pkG_gen h.d.epoch (show j < A.F.length by omega))
    obtain ⟨q1, q2⟩ := p6 (j + 1) (by omega) rfl
    obtain ⟨r1, r2⟩ := hearAll_due k (j + 1) p1 (by omega) (q2 (by omega))
    exact ⟨by show _ ≤ (hearAll m (hearG m B (pkG A j)).1 _).u; omega, fun _ => r2 (.inl q1)⟩

/-! ### An exchange -/
/-- A, when both told and all came. -/
def exA (m : Nat) (A B : PG) : PG := hearAll m (flushG A) (toldG B)
theorem flush_pair {m w : Nat} {A B : PG} (h : Pair m w A B) : Pair m w (flushG A) (flushG B) := ⟨h.d.flush.sub (by simp), h.e.flush.sub (by simp), h.na, h.nb, h.cka, h.ckb⟩
theorem exch_pair {m w : Nat} {A B : PG} (h : Pair m w A B) : Pair m w (exA m A B) (exA m B A) ∧ A.u ≤ (exA m A B).u ∧ A.a ≤ (exA m A B).a ∧ B.u ≤ (exA m B A).u ∧ B.a ≤ (exA m B A).a := by
  obtain ⟨b1, b2, b3⟩ := hearAll_pair (toldG A) (flush_pair h) (toldG_gen h.d)
  have hk := (hearAll_keep m (toldG A) (flushG B)).1
  obtain ⟨a1, a2, a3⟩ := hearAll_pair (toldG B) b1.symm fun x hx => (toldG_gen h.e x hx).mono b2 fun i y hy => by rw [hk]; exact hy
  exact ⟨a1.symm, a2, a3, b2, b3⟩
theorem exA_F (m : Nat) (A B : PG) : (exA m A B).F = A.F := (hearAll_keep m _ _).1
def Hr (g : PG) : Prop := g.td = g.F.length ∧ g.ag = false
theorem exA_half (m : Nat) (A B : PG) : Hr (exA m A B) := by
  obtain ⟨h1, h2, h3⟩ := hearAll_keep m (toldG B) (flushG A)
  exact ⟨by unfold exA; rw [h2, h1]; rfl, h3⟩
theorem told_half {g : PG} (h : Hr g) (ha : g.a ≤ g.F.length) : toldG g = if g.ow = true then [(g.ep, 0, (g.u : Int), ⟨#[]⟩)] else [] := by
  have hf : fromG g = g.F.length := by
    unfold fromG
    rw [if_neg (by rw [h.2]; simp), h.1]
    omega
  unfold toldG
  rw [dueG_none (by omega)]
  by_cases ho : g.ow = true
  · rw [if_pos ⟨rfl, ho⟩, if_pos ho]
  · rw [if_neg (fun h => ho h.2), if_neg ho]
theorem Pair.le {m w : Nat} {A B : PG} (h : Pair m w A B) : A.a ≤ A.F.length := Nat.le_trans h.d.ack h.d.upto
theorem exA_ow {m w : Nat} {A B : PG} (h : Pair m w A B) (hB : Hr B) : (exA m A B).ow = false := by
  have hg := toldG_gen h.e
  have ht := told_half hB h.symm.le
  have hz : ∀ x ∈ toldG B, Gen (flushG B) x ∧ x.2.1 = 0 := by
    intro x hx
    refine ⟨hg x hx, ?_⟩
    rw [ht] at hx
    split at hx
    · simp at hx
      rw [hx]
    · simp at hx
  exact (hearAll_ow (toldG B) (flush_pair h).symm hz).trans rfl
/-- Nothing is to be told, but what time brings. -/
structure Rest (m w : Nat) (A B : PG) : Prop where
  p : Pair m w A B
  ha : Hr A
  hb : Hr B
  oa : A.ow = false
  ob : B.ow = false
theorem tick_pair {m w : Nat} {A B : PG} (hw : 0 < w) (h : Pair m w A B) : Pair m w (tickG w A) (tickG w B) :=
  ⟨h.d.tick, h.e.tick, by rw [(tickG_at w A).1]; exact h.na, by rw [(tickG_at w B).1]; exact h.nb, tickG_ck hw h.cka, tickG_ck hw h.ckb⟩
/-- A, when a tick and two exchanges are over. -/
def rnd (m w : Nat) (A B : PG) : PG := exA m (exA m (tickG w A) (tickG w B)) (exA m (tickG w B) (tickG w A))
theorem rnd_rest {m w : Nat} {A B : PG} (hw : 0 < w) (h : Pair m w A B) : Rest m w (rnd m w A B) (rnd m w B A) ∧ (rnd m w A B).F = A.F ∧ (rnd m w B A).F = B.F ∧ A.a ≤ (rnd m w A B).a ∧ B.a ≤ (rnd m w B A).a := by
  have h1 := tick_pair hw h
  obtain ⟨a1, a2, _⟩ := tickG_at w A
  obtain ⟨b1, b2, _⟩ := tickG_at w B
  obtain ⟨h2, _, c1, _, c2⟩ := exch_pair h1
  obtain ⟨h3, _, c3, _, c4⟩ := exch_pair h2
  refine ⟨⟨h3, exA_half _ _ _, exA_half _ _ _, exA_ow h2 (exA_half _ _ _), exA_ow h2.symm (exA_half _ _ _)⟩, ?_, ?_, ?_, ?_⟩
  · unfold rnd; rw [exA_F, exA_F, a1]
  · unfold rnd; rw [exA_F, exA_F, b1]
  · rw [← a2]; exact Nat.le_trans c1 c3
  · rw [← b2]; exact Nat.le_trans c2 c4
theorem rnd_done {m w : Nat} {A B : PG} (hw : 0 < w) (h : Rest m w A B) (hag : (tickG w A).ag = true) : (rnd m w A B).a = A.F.length := by
  have h1 := tick_pair hw h.p
  obtain ⟨a1, a2, a3, _, a5, a6, a7⟩ := tickG_at w A
  have hne : A.a ≠ A.F.length := by
    intro he
    unfold tickG at hag
    rw [if_pos he] at hag
    simp only [h.ha.2] at hag
    cases hag
  have hle := h.p.le
  obtain ⟨h2, _, _, _, _⟩ := exch_pair h1
  unfold rnd
  generalize tickG w A = A1 at *
  generalize tickG w B = B1 at *
  have hfr : fromG A1 = A.a := by unfold fromG; rw [if_pos hag, a2]
  have hdue : toldG A1 = (List.range' A.a (A.F.length - A.a)).map (pkG (flushG A1)) := by
    unfold toldG
    rw [if_neg]
    · unfold dueG; rw [hfr, a1]; rfl
    · rw [dueG_len, hfr, a1]; omega
  have hd := hearAll_due (A.F.length - A.a) A.a (flush_pair h1) (by show _ ≤ A1.F.length; rw [a1]; omega) (by show A.a ≤ B1.u; rw [← a2]; exact h1.d.ack)
  rw [← hdue] at hd
  have hu : (exA m B1 A1).u = A.F.length := by
    have := h2.d.upto
    rw [exA_F, a1] at this
    have := hd.1
    unfold exA at *
    omega
  have how : (exA m B1 A1).ow = true := hd.2 (.inr (by omega))
  have hep : (exA m B1 A1).ep = 3 := h2.e.epoch
  have ht := told_half (exA_half m B1 A1) h2.symm.le
  rw [if_pos how] at ht
  have hg := toldG_gen h2.e
  have ha := hearAll_a (toldG (exA m B1 A1)) (flush_pair h2).symm (fun x hx => ⟨hg x hx, by rw [ht] at hx; simp at hx; rw [hx]; rfl⟩) (.inr (by rw [ht]; simp))
  rw [← hu]
  exact ha
theorem flush_id {g : PG} (h : Hr g) (ho : g.ow = false) : flushG g = g := by
  obtain ⟨F, a, u, E, ck, td, ow, ag, ep⟩ := g
  obtain ⟨h1, h2⟩ := h
  dsimp only at h1 h2 ho
  subst h1 h2 ho
  rfl
theorem exA_quiet {m : Nat} {A B : PG} (hA : Hr A) (oA : A.ow = false) (hB : Hr B) (oB : B.ow = false) (hb : B.a ≤ B.F.length) : exA m A B = A := by
  unfold exA
  rw [told_half hB hb, if_neg (by rw [oB]; simp), flush_id hA oA]
  rfl
theorem rnd_quiet {m w : Nat} {A B : PG} (hw : 0 < w) (h : Rest m w A B) (hA : (tickG w A).ag = false) (hB : (tickG w B).ag = false) : rnd m w A B = tickG w A ∧ rnd m w B A = tickG w B := by
  have h1 := tick_pair hw h.p
  obtain ⟨a1, a2, a3, _, a5, a6, a7⟩ := tickG_at w A
  obtain ⟨b1, b2, b3, _, b5, b6, b7⟩ := tickG_at w B
  have ra : Hr (tickG w A) := ⟨by rw [a6, a1]; exact h.ha.1, hA⟩
  have rb : Hr (tickG w B) := ⟨by rw [b6, b1]; exact h.hb.1, hB⟩
  have wa : (tickG w A).ow = false := a7.trans h.oa
  have wb : (tickG w B).ow = false := b7.trans h.ob
  unfold rnd
  rw [exA_quiet ra wa rb wb h1.symm.le, exA_quiet rb wb ra wa h1.le, exA_quiet ra wa rb wb h1.symm.le, exA_quiet rb wb ra wa h1.le]
  exact ⟨rfl, rfl⟩

/-! ### How long it takes -/
def mu (w : Nat) (A B : PG) : Nat := if A.a = A.F.length then (if B.a = B.F.length then 0 else w - B.ck) else if B.a = B.F.length then w - A.ck else w + (w - Max.max A.ck B.ck)
theorem mu_le (w : Nat) (A B : PG) : mu w A B ≤ 2 * w := by
  unfold mu
  split
  · split <;> omega
  · split <;> omega
theorem mu_zero {m w : Nat} {A B : PG} (h : Pair m w A B) (hm : mu w A B = 0) : A.a = A.F.length ∧ B.a = B.F.length := by
  have h1 := h.cka
  have h2 := h.ckb
  unfold mu at hm
  split at hm
  · split at hm
    · exact ⟨by assumption, by assumption⟩
    · omega
  · split at hm <;> omega
theorem tick_ck {w : Nat} {g : PG} (hag : g.ag = false) (hne : g.a ≠ g.F.length) : ((tickG w g).ag = true) ∨ ((tickG w g).ag = false ∧ (tickG w g).ck = g.ck + 1) := by
  unfold tickG
  rw [if_neg hne]
  split
  · exact .inl rfl
  · exact .inr ⟨hag, rfl⟩
theorem tick_done {w : Nat} {g : PG} (hag : g.ag = false) (he : g.a = g.F.length) : (tickG w g).ag = false := by
  unfold tickG
  rw [if_pos he]
  exact hag
theorem rnd_mu {m w : Nat} {A B : PG} (hw : 0 < w) (h : Rest m w A B) : mu w (rnd m w A B) (rnd m w B A) ≤ mu w A B - 1 := by
  obtain ⟨hr, fa, fb, la, lb⟩ := rnd_rest hw h.p
  have ca := h.p.cka
  have cb := h.p.ckb
  have ha := hr.p.le
  have hb := hr.p.symm.le
  rw [fa] at ha
  rw [fb] at hb
  obtain ⟨a1, a2, _⟩ := tickG_at w A
  obtain ⟨b1, b2, _⟩ := tickG_at w B
  have hka := tickG_ck hw ca
  have hkb := tickG_ck hw cb
  have hda := fun hag => rnd_done hw h (A := A) (B := B) hag
  have hs : Rest m w B A := ⟨h.p.symm, h.hb, h.ha, h.ob, h.oa⟩
  have hdb := fun hag => rnd_done hw hs hag
  have hq := rnd_quiet (m := m) hw h
  unfold mu
  rw [fa, fb]
  by_cases ea : A.a = A.F.length
  · have ga := tick_done (w := w) h.ha.2 ea
    rw [if_pos ea, if_pos (by omega)]
    by_cases eb : B.a = B.F.length
    · rw [if_pos eb, if_pos (by omega)]
      exact Nat.zero_le _
    · rw [if_neg eb]
      rcases tick_ck (w := w) h.hb.2 eb with gb | ⟨gb, kb⟩
      · rw [if_pos (hdb gb)]
        exact Nat.zero_le _
      · obtain ⟨q1, q2⟩ := hq ga gb
        rw [q2, b2, if_neg eb, kb]
        omega
  · rw [if_neg ea]
    rcases tick_ck (w := w) h.ha.2 ea with ga | ⟨ga, ka⟩
    · rw [if_pos (hda ga)]
      by_cases eb : B.a = B.F.length
      · rw [if_pos eb, if_pos (by omega)]
        exact Nat.zero_le _
      · rw [if_neg eb]
        split <;> omega
    · by_cases eb : B.a = B.F.length
      · have gb := tick_done (w := w) h.hb.2 eb
        obtain ⟨q1, q2⟩ := hq ga gb
        rw [if_pos eb, q1, q2, a2, b2, if_neg ea, if_pos eb, ka]
        omega
      · rw [if_neg eb]
        rcases tick_ck (w := w) h.hb.2 eb with gb | ⟨gb, kb⟩
        · rw [if_pos (hdb gb), if_pos (hdb gb)]
          split <;> omega
        · obtain ⟨q1, q2⟩ := hq ga gb
          rw [q1, q2, a2, b2, if_neg ea, if_neg eb, ka, kb]
          omega
end Go.Proofs.Ytdnjjodjglikjaa
