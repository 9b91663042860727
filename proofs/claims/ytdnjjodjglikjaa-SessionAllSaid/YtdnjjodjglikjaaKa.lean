/- A way between two peers that loses, doubles and delays, on plain lists; no program here. -/
import Derived.Test.YtdnjjodjglikjaaSa
import Derived.Test.YtdnjjodjglikjaaWj
namespace Go.Proofs.Ytdnjjodjglikjaa
open Go Go.SL

structure LS where
  A : PG
  B : PG
  P : List Pk
  Q : List Pk
def flipS (s : LS) : LS := ⟨s.B, s.A, s.Q, s.P⟩
def kOf (pick : Int) (n : Nat) : Nat := (IntKind.u64.wrap pick % n).toNat
def popL (tw : Bool) (k : Nat) (P : List Pk) : List Pk := if tw = true then P else P.take k ++ P.drop (k + 1)
def hearB (m : Nat) (tw : Bool) (pick : Int) (s : LS) : LS := match s.P[kOf pick s.P.length]? with
  | none => s
  | some x => ⟨s.A, (hearG m s.B x).1, popL tw (kOf pick s.P.length) s.P, s.Q⟩
def hearL (m : Nat) (toB tw : Bool) (pick : Int) (s : LS) : LS := if toB = true then hearB m tw pick s else flipS (hearB m tw pick (flipS s))
def flushL (s : LS) : LS := ⟨flushG s.A, flushG s.B, s.P ++ toldG s.A, s.Q ++ toldG s.B⟩
/-- A packet that a peer told, in its epoch. -/
def Gen (A : PG) (x : Pk) : Prop := x.1 = 3 ∧ 0 ≤ x.2.2.1 ∧ x.2.2.1 ≤ A.u ∧ ((x.2.1 = 0 ∧ x.2.2.2 = ⟨#[]⟩) ∨ ∃ n : Nat, 0 < n ∧ x.2.1 = n ∧ A.F[n - 1]? = some x.2.2.2)
structure Dir (m : Nat) (A B : PG) (P : List Pk) : Prop where
  epoch : A.ep = 3
  ack : A.a ≤ B.u
  upto : B.u ≤ A.F.length
  early : Of A.F B.u B.E
  next : lget ((B.u : Int) + 1) B.E = none
  win : A.F.length ≤ A.a + m
  small : ∀ x ∈ A.F, x.size ≤ 65536
  way : ∀ x ∈ P, Gen A x
structure LInv (m w c : Nat) (s : LS) : Prop where
  oka : POk m c s.A
  okb : POk m c s.B
  ab : Dir m s.A s.B s.P
  ba : Dir m s.B s.A s.Q
  cka : s.A.ck < w
  ckb : s.B.ck < w
  np : s.P.length ≤ 64 * c
  nq : s.Q.length ≤ 64 * c
theorem LInv.flip {m w c : Nat} {s : LS} (h : LInv m w c s) : LInv m w c (flipS s) := ⟨h.okb, h.oka, h.ba, h.ab, h.ckb, h.cka, h.nq, h.np⟩
theorem LInv.mono {m w c d : Nat} {s : LS} (h : LInv m w c s) (hd : c ≤ d) : LInv m w d s := ⟨h.oka.mono hd, h.okb.mono hd, h.ab, h.ba, h.cka, h.ckb, by have := h.np; omega, by have := h.nq; omega⟩
theorem Gen.mono {A A' : PG} {x : Pk} (h : Gen A x) (hu : A.u ≤ A'.u) (hF : ∀ (i : Nat) (y : ByteArray), A.F[i]? = some y → A'.F[i]? = some y) : Gen A' x := by
  obtain ⟨h1, h2, h3, h4⟩ := h
  refine ⟨h1, h2, by omega, h4.imp id ?_⟩
  rintro ⟨n, n0, n1, n2⟩
  exact ⟨n, n0, n1, hF _ _ n2⟩
theorem Dir.sub {m : Nat} {A B : PG} {P P' : List Pk} (h : Dir m A B P) (hs : ∀ x ∈ P', x ∈ P) : Dir m A B P' := ⟨h.epoch, h.ack, h.upto, h.early, h.next, h.win, h.small, fun x hx => h.way x (hs x hx)⟩
theorem LInv.new (m w : Nat) (hw : 0 < w) : LInv m w 0 ⟨newG 3, newG 3, [], []⟩ := by
  have d : Dir m (newG 3) (newG 3) [] := ⟨rfl, Nat.le_refl _, Nat.le_refl _, ⟨by simp [newG], by simp [newG]⟩, rfl, by simp [newG], by simp [newG], by simp⟩
  exact ⟨newG_ok _ _ (by omega), newG_ok _ _ (by omega), d, d, hw, hw, by simp, by simp⟩

/-! ### Hearing -/
theorem Gen.good {m c : Nat} {A B : PG} {P : List Pk} {x : Pk} (h : Gen A x) (d : Dir m A B P) (ha : POk m c A) (hc : c ≤ 100000) : goodK x = true := by
  obtain ⟨h1, h2, h3, h4⟩ := h
  have hu := ha.heard
  have hs := ha.sent
  unfold goodK numB
  rcases h4 with ⟨e1, e2⟩ | ⟨n, n0, e1, e2⟩
  · obtain ⟨x1, x2, x3, x4⟩ := x
    dsimp only at h1 h2 h3 e1 e2 ⊢
    rw [h1, e1, e2]
    simp only [Bool.and_eq_true, Bool.or_eq_true, decide_eq_true_eq]
    exact ⟨⟨⟨⟨by omega, by omega⟩, by omega⟩, by decide⟩, .inr trivial⟩
  · have hl := (List.getElem?_eq_some_iff.1 e2).1
    have hz := d.small _ (List.mem_of_getElem? e2)
    obtain ⟨x1, x2, x3, x4⟩ := x
    dsimp only at h1 h2 h3 e1 e2 hz ⊢
    rw [h1, e1]
    simp only [Bool.and_eq_true, Bool.or_eq_true, decide_eq_true_eq]
    exact ⟨⟨⟨⟨by omega, by omega⟩, by omega⟩, hz⟩, .inl (by omega)⟩
theorem skipN_to (k : Int) (a n u : Nat) (h0 : 0 ≤ k) (h1 : k ≤ u) (ha : a ≤ u) : a + skipN (k - a) (n - a) ≤ u := by unfold skipN; omega
theorem hear_dir {m w c : Nat} {A B : PG} {P Q : List Pk} {x : Pk} (hx : Gen A x) (d : Dir m A B P) (e : Dir m B A Q) (ha : POk m c A) (hb : POk m c B) (hc : c ≤ 100000) (hck : B.ck < w) :
    (hearG m B x).2.2 = 0 ∧ A.F.take (hearG m B x).1.u = A.F.take B.u ++ (hearG m B x).2.1 ∧ Dir m A (hearG m B x).1 P ∧ Dir m (hearG m B x).1 A Q ∧ (hearG m B x).1.ck < w ∧ B.u ≤ (hearG m B x).1.u := by
  have hgood := hx.good d ha hc
  obtain ⟨x1, x2, x3, x4⟩ := hx
  have he := e.upto
  have hea := e.ack
  have hbe := e.epoch
  have hsk := skipN_to x.2.2.1 B.a B.F.length A.u x2 x3 hea
  have hck2 : (ackG B x.2.2.1).ck < w := by
    unfold ackG
    dsimp only
    split <;> omega
  have hwin := e.win
  unfold hearG
  rw [if_neg (by rw [hgood]; simp; omega), if_neg (by rw [x1, hbe]; simp)]
  rcases x4 with ⟨s1, s2⟩ | ⟨n, n0, s1, s2⟩
  · rw [if_pos s1]
    refine ⟨rfl, by simp [ackG], ⟨d.epoch, d.ack, d.upto, d.early, d.next, d.win, d.small, d.way⟩, ⟨hbe, hsk, he, e.early, e.next, ?_, e.small, fun y hy => (e.way y hy).mono (Nat.le_refl _) (fun _ _ h => h)⟩, hck2, Nat.le_refl _⟩
    show B.F.length ≤ B.a + _ + m
    omega
  · obtain ⟨o1, o2, o3, o4, o5, o6, o7, o8⟩ := come_of (most := m) (A := A.a) d.upto d.ack d.win d.early d.next n0 s2
    rw [if_neg (by omega), s1, if_neg (by rw [o1]; simp)]
    refine ⟨rfl, o4, ⟨d.epoch, Nat.le_trans d.ack o5, o6, o2, o3, d.win, d.small, d.way⟩, ⟨hbe, hsk, he, e.early, e.next, ?_, e.small, fun y hy => (e.way y hy).mono o5 (fun _ _ h => h)⟩, hck2, o5⟩
    show B.F.length ≤ B.a + _ + m
    omega
theorem popL_sub {tw : Bool} {k : Nat} {P : List Pk} : ∀ x ∈ popL tw k P, x ∈ P := by
  intro x hx
  unfold popL at hx
  split at hx
  · exact hx
  · rcases List.mem_append.1 hx with h | h
    · exact List.mem_of_mem_take h
    · exact List.mem_of_mem_drop h
theorem popL_len (tw : Bool) (k : Nat) (P : List Pk) : (popL tw k P).length ≤ P.length := by
  unfold popL
  split
  · exact Nat.le_refl _
  · simp; omega
theorem LInv.hearB {m w c : Nat} {s : LS} (h : LInv m w c s) (hc : c ≤ 100000) (tw : Bool) (pick : Int) : LInv m w (c + 1) (hearB m tw pick s) := by
  unfold Go.Proofs.Ytdnjjodjglikjaa.hearB
  split
  · exact h.mono (by omega)
  · rename_i x hx
    obtain ⟨r1, r2, r3, r4, r5, r6⟩ := hear_dir (h.ab.way x (List.mem_of_getElem? hx)) h.ab h.ba h.oka h.okb hc h.ckb
    have hl := popL_len tw (kOf pick s.P.length) s.P
    exact ⟨h.oka.mono (by omega), hearG_ok h.okb x, r3.sub popL_sub, r4, h.cka, r5, by have := h.np; dsimp only; omega, by have := h.nq; dsimp only; omega⟩
theorem LInv.hearL {m w c : Nat} {s : LS} (h : LInv m w c s) (hc : c ≤ 100000) (toB tw : Bool) (pick : Int) : LInv m w (c + 1) (hearL m toB tw pick s) := by
  unfold Go.Proofs.Ytdnjjodjglikjaa.hearL
  split
  · exact h.hearB hc tw pick
  · exact (h.flip.hearB hc tw pick).flip

/-! ### Telling, ticks, sending -/
theorem toldG_gen {m : Nat} {A B : PG} {P : List Pk} (d : Dir m A B P) : ∀ x ∈ toldG A, Gen (flushG A) x := by
  intro x hx
  have hep := d.epoch
  unfold toldG at hx
  split at hx
  · simp at hx
    subst hx
    exact ⟨hep, by simp only; omega, Int.le_refl _, .inl ⟨rfl, rfl⟩⟩
  · unfold dueG at hx
    obtain ⟨j, hj, rfl⟩ := List.mem_map.1 hx
    rw [List.mem_range'_1] at hj
    refine ⟨hep, by simp only [pkG]; omega, Int.le_refl _, .inr ⟨j + 1, by omega, rfl, ?_⟩⟩
    show A.F[j + 1 - 1]? = some (A.F.getD j ⟨#[]⟩)
    rw [Nat.add_sub_cancel, List.getD_eq_getElem?_getD, List.getElem?_eq_getElem (show j < A.F.length by omega)]
    rfl
theorem toldG_len {m c : Nat} {A : PG} (h : POk m c A) (hm : 1 ≤ m ∧ m ≤ 64) : (toldG A).length ≤ 64 := by
  have hd := dueG_len A A.F.length
  have hf := h.full
  have ha : A.a ≤ fromG A := by
    unfold fromG
    split <;> omega
  unfold toldG
  split
  · simp
  · omega
theorem Dir.flush {m : Nat} {A B : PG} {P : List Pk} (d : Dir m A B P) : Dir m (flushG A) (flushG B) (P ++ toldG A) := by
  refine ⟨d.epoch, d.ack, d.upto, d.early, d.next, d.win, d.small, fun x hx => ?_⟩
  rcases List.mem_append.1 hx with h | h
  · exact (d.way x h).mono (Nat.le_refl _) (fun _ _ h => h)
  · exact toldG_gen d x h
theorem LInv.flush {m w c : Nat} {s : LS} (h : LInv m w c s) (hm : 1 ≤ m ∧ m ≤ 64) : LInv m w (c + 1) (flushL s) := by
  have h1 := toldG_len h.oka hm
  have h2 := toldG_len h.okb hm
  have h3 := h.np
  have h4 := h.nq
  exact ⟨(flushG_ok h.oka).mono (by omega), (flushG_ok h.okb).mono (by omega), h.ab.flush, h.ba.flush, h.cka, h.ckb, by unfold flushL; simp only [List.length_append]; omega, by unfold flushL; simp only [List.length_append]; omega⟩
theorem tickG_at (w : Nat) (g : PG) : (tickG w g).F = g.F ∧ (tickG w g).a = g.a ∧ (tickG w g).u = g.u ∧ (tickG w g).E = g.E ∧ (tickG w g).ep = g.ep ∧ (tickG w g).td = g.td ∧ (tickG w g).ow = g.ow := by
  unfold tickG
  split
  · exact ⟨rfl, rfl, rfl, rfl, rfl, rfl, rfl⟩
  split <;> exact ⟨rfl, rfl, rfl, rfl, rfl, rfl, rfl⟩
theorem tickG_ck {w : Nat} {g : PG} (hw : 0 < w) (h : g.ck < w) : (tickG w g).ck < w := by
  unfold tickG
  split
  · exact hw
  split
  · exact hw
  · simp only; omega
theorem Dir.tick {m w : Nat} {A B : PG} {P : List Pk} (d : Dir m A B P) : Dir m (tickG w A) (tickG w B) P := by
  obtain ⟨a1, a2, a3, a4, a5, a6, a7⟩ := tickG_at w A
  obtain ⟨b1, b2, b3, b4, b5, b6, b7⟩ := tickG_at w B
  exact ⟨by rw [a5]; exact d.epoch, by rw [a2, b3]; exact d.ack, by rw [a1, b3]; exact d.upto, by rw [a1, b3, b4]; exact d.early, by rw [b3, b4]; exact d.next, by rw [a1, a2]; exact d.win, by rw [a1]; exact d.small,
    fun x hx => (d.way x hx).mono (by rw [a3]; exact Nat.le_refl _) (fun i y h => by rw [a1]; exact h)⟩
def tickL (w : Nat) (s : LS) : LS := ⟨tickG w s.A, tickG w s.B, s.P, s.Q⟩
theorem LInv.tick {m w c : Nat} {s : LS} (h : LInv m w c s) (hw : 0 < w) : LInv m w (c + 1) (tickL w s) :=
  ⟨tickG_ok h.oka, tickG_ok h.okb, h.ab.tick, h.ba.tick, tickG_ck hw h.cka, tickG_ck hw h.ckb, by have := h.np; unfold tickL; simp only; omega, by have := h.nq; unfold tickL; simp only; omega⟩
theorem Dir.send {m : Nat} {A B : PG} {P : List Pk} {x : ByteArray} (d : Dir m A B P) : Dir m (sendG m A x).1 B P := by
  unfold sendG
  split
  · exact d
  split
  · exact d
  · rename_i h1 h2
    have hu := d.upto
    have hw := d.win
    refine ⟨d.epoch, d.ack, by simp; omega, d.early.app x, d.next, by simp only [List.length_append, List.length_cons, List.length_nil]; omega, fun y hy => ?_, fun y hy => (d.way y hy).mono (Nat.le_refl _) (fun i z h => ?_)⟩
    · rcases List.mem_append.1 hy with h | h
      · exact d.small y h
      · simp at h
        rw [h]; omega
    · show (A.F ++ [x])[i]? = some z
      rw [List.getElem?_append_left (List.getElem?_eq_some_iff.1 h).1]
      exact h
theorem Dir.send' {m : Nat} {A B : PG} {Q : List Pk} {x : ByteArray} (d : Dir m B A Q) : Dir m B (sendG m A x).1 Q := by
  unfold sendG
  split
  · exact d
  split
  · exact d
  · exact ⟨d.epoch, d.ack, d.upto, d.early, d.next, d.win, d.small, d.way⟩
theorem LInv.sendA {m w c : Nat} {s : LS} (h : LInv m w c s) (x : ByteArray) : LInv m w (c + 1) ⟨(sendG m s.A x).1, s.B, s.P, s.Q⟩ := by
  have hck : (sendG m s.A x).1.ck = s.A.ck := by
    unfold sendG
    split
    · rfl
    split <;> rfl
  exact ⟨sendG_ok h.oka x, h.okb.mono (by omega), h.ab.send, h.ba.send', by rw [hck]; exact h.cka, h.ckb, by have := h.np; simp only; omega, by have := h.nq; simp only; omega⟩
theorem LInv.sendB {m w c : Nat} {s : LS} (h : LInv m w c s) (x : ByteArray) : LInv m w (c + 1) ⟨s.A, (sendG m s.B x).1, s.P, s.Q⟩ := (h.flip.sendA x).flip
theorem LInv.loseA {m w c : Nat} {s : LS} (h : LInv m w c s) : LInv m w (c + 1) ⟨s.A, s.B, [], s.Q⟩ :=
  ⟨h.oka.mono (by omega), h.okb.mono (by omega), h.ab.sub (by simp), h.ba, h.cka, h.ckb, by simp, by have := h.nq; simp only; omega⟩
theorem LInv.loseB {m w c : Nat} {s : LS} (h : LInv m w c s) : LInv m w (c + 1) ⟨s.A, s.B, s.P, []⟩ := (h.flip.loseA).flip
end Go.Proofs.Ytdnjjodjglikjaa
