/- What memory holds, part by part: atoms of memory that one owns or only reads, and what a step keeps. No program is named here; no conditions. -/
import Derived.CallsIn
import Derived.Laws.Sem
import Derived.Laws.World
namespace Go.SL
open Go

abbrev Hp := Nat → Option Obj

def Hp.le (a b : Hp) : Prop := ∀ k o, a k = some o → b k = some o
theorem Hp.le_refl (a : Hp) : Hp.le a a := fun _ _ h => h
theorem Hp.le_trans {a b c : Hp} (h : Hp.le a b) (k : Hp.le b c) : Hp.le a c := fun i o x => k i o (h i o x)

/-- A part of memory: what it says of the blocks that it owns, and of those that nobody writes any more. -/
structure Atom where
  sat : Hp → Hp → Prop
  mono : ∀ hx hr hr', Hp.le hr hr' → sat hx hr → sat hx hr'

def Join (h h1 h2 : Hp) : Prop := ∀ k, (h1 k = none ∧ h k = h2 k) ∨ (h2 k = none ∧ h k = h1 k)
def Dj (a b : Hp) : Prop := ∀ k, a k = none ∨ b k = none
def emp : Hp := fun _ => none
def one (b : Nat) (o : Obj) : Hp := fun k => if k = b then some o else none
def both (a b : Hp) : Hp := fun k => match a k with | some o => some o | none => b k

theorem Join.of_dj {a b : Hp} (h : Dj a b) : Join (both a b) a b := by
  intro k
  rcases h k with h1 | h1
  · exact .inl ⟨h1, by simp [both, h1]⟩
  · refine .inr ⟨h1, ?_⟩
    cases ha : a k <;> simp [both, ha, h1]
theorem Join.dj {h a b : Hp} (j : Join h a b) : Dj a b := fun k => (j k).imp (·.1) (·.1)
theorem Join.isNone {h a b : Hp} (j : Join h a b) {k : Nat} : h k = none ↔ a k = none ∧ b k = none := by
  rcases j k with ⟨h1, h2⟩ | ⟨h1, h2⟩ <;> simp [h1, h2]
theorem Join.left {h a b : Hp} (j : Join h a b) {k : Nat} {o : Obj} (e : a k = some o) : h k = some o := by
  rcases j k with ⟨h1, h2⟩ | ⟨h1, h2⟩
  · rw [h1] at e; cases e
  · rw [h2, e]
theorem Join.right {h a b : Hp} (j : Join h a b) {k : Nat} {o : Obj} (e : b k = some o) : h k = some o := by
  rcases j k with ⟨h1, h2⟩ | ⟨h1, h2⟩
  · rw [h2, e]
  · rw [h1] at e; cases e
theorem Join.comm {h a b : Hp} (j : Join h a b) : Join h b a := fun k => (j k).symm
theorem Join.eq {h h' a b : Hp} (j : Join h a b) (j' : Join h' a b) : h = h' := by
  funext k
  rcases j k with ⟨h1, h2⟩ | ⟨h1, h2⟩ <;> rcases j' k with ⟨h3, h4⟩ | ⟨h3, h4⟩ <;> simp_all
theorem Join.emp_left (h : Hp) : Join h emp h := fun _ => .inl ⟨rfl, rfl⟩
theorem Join.of_emp {h a b : Hp} (j : Join h a b) (ha : ∀ k, a k = none) : h = b := by
  funext k
  rcases j k with ⟨_, h2⟩ | ⟨h1, h2⟩
  · exact h2
  · rw [h2, h1, ha]
/-- (a + (b + c)) = (b + (a + c)) -/
theorem Join.swap {h a r b c : Hp} (j : Join h a r) (j' : Join r b c) : ∃ r', Join h b r' ∧ Join r' a c := by
  have hac : Dj a c := fun k => by
    rcases j k with ⟨h1, _⟩ | ⟨h1, _⟩
    · exact .inl h1
    · exact .inr ((j'.isNone.1 h1).2)
  refine ⟨both a c, fun k => ?_, .of_dj hac⟩
  rcases j k with ⟨h1, h2⟩ | ⟨h1, h2⟩
  · rcases j' k with ⟨h3, h4⟩ | ⟨h3, h4⟩
    · exact .inl ⟨h3, by simp [both, h1, h2, h4]⟩
    · exact .inr ⟨by simp [both, h1, h3], by rw [h2, h4]⟩
  · obtain ⟨h3, h4⟩ := j'.isNone.1 h1
    refine .inl ⟨h3, ?_⟩
    rw [h2]
    cases ha : a k <;> simp [both, ha, h4]
/-- ((a + b) + c) = (a + (b + c)) -/
theorem Join.assoc {h l a b c : Hp} (j : Join h l c) (j' : Join l a b) : ∃ r, Join h a r ∧ Join r b c := by
  obtain ⟨r', h1, h2⟩ := Join.swap j.comm j'
  exact ⟨r', h1, h2.comm⟩
theorem Join.assoc' {h a r b c : Hp} (j : Join h a r) (j' : Join r b c) : ∃ l, Join h l c ∧ Join l a b := by
  obtain ⟨r', h1, h2⟩ := Join.swap j j'.comm
  exact ⟨r', h1.comm, h2⟩

def Sat : List Atom → Hp → Hp → Prop
  | [], hx, _ => ∀ k, hx k = none
  | A :: H, hx, hr => ∃ h1 h2, Join hx h1 h2 ∧ A.sat h1 hr ∧ Sat H h2 hr

theorem Sat.mono {hr hr' : Hp} (hle : Hp.le hr hr') : ∀ {H : List Atom} {hx : Hp}, Sat H hx hr → Sat H hx hr'
  | [], _, h => h
  | A :: _, _, ⟨h1, h2, j, a, r⟩ => ⟨h1, h2, j, A.mono _ _ _ hle a, Sat.mono hle r⟩

theorem Sat.append {hr : Hp} : ∀ {H F : List Atom} {hx : Hp}, Sat (H ++ F) hx hr ↔ ∃ h1 h2, Join hx h1 h2 ∧ Sat H h1 hr ∧ Sat F h2 hr
  | [], F, hx => ⟨fun h => ⟨emp, hx, .emp_left hx, fun _ => rfl, h⟩, fun ⟨_, _, j, e, f⟩ => (j.of_emp e) ▸ f⟩
  | A :: H, F, hx => by
    constructor
    · rintro ⟨h1, h2, j, a, r⟩
      obtain ⟨h3, h4, j', s, f⟩ := (Sat.append (H := H)).1 r
      obtain ⟨l, j1, j2⟩ := j.assoc' j'
      exact ⟨l, h4, j1, ⟨h1, h3, j2, a, s⟩, f⟩
    · rintro ⟨h1, h2, j, ⟨h3, h4, j', a, s⟩, f⟩
      obtain ⟨r, j1, j2⟩ := j.assoc j'
      exact ⟨h3, r, j1, a, (Sat.append (H := H)).2 ⟨h4, h2, j2, s, f⟩⟩

theorem Sat.perm {hr : Hp} {H H' : List Atom} (p : H.Perm H') : ∀ {hx : Hp}, Sat H hx hr → Sat H' hx hr := by
  induction p with
  | nil => exact fun h => h
  | cons A _ ih => exact fun ⟨h1, h2, j, a, r⟩ => ⟨h1, h2, j, a, ih r⟩
  | swap A B l =>
    rintro hx ⟨h1, h2, j, b, h3, h4, j', a, r⟩
    obtain ⟨r', j1, j2⟩ := Join.swap j j'
    exact ⟨h3, r', j1, a, h1, h4, j2, b, r⟩
  | trans _ _ ih1 ih2 => exact fun h => ih2 (ih1 h)

/-! ### Making atoms -/
/-- One owns block b, and it is o. -/
def pt (b : Nat) (o : Obj) : Atom := ⟨fun hx _ => hx = one b o, fun _ _ _ _ h => h⟩
/-- Nobody writes block b any more, and it is o. -/
def rd (b : Nat) (o : Obj) : Atom := ⟨fun hx hr => (∀ k, hx k = none) ∧ hr b = some o, fun _ _ _ hle h => ⟨h.1, hle _ _ h.2⟩⟩
/-- A fact without memory. -/
def fact (p : Prop) : Atom := ⟨fun hx _ => (∀ k, hx k = none) ∧ p, fun _ _ _ _ h => h⟩
/-- There is an x such that. -/
def ex {α : Type} (f : α → List Atom) : Atom := ⟨fun hx hr => ∃ x, Sat (f x) hx hr, fun _ _ _ hle ⟨x, h⟩ => ⟨x, h.mono hle⟩⟩
/-- An atom that owns nothing. -/
def Atom.ro (A : Atom) : Prop := ∀ hx hr, A.sat hx hr → ∀ k, hx k = none
theorem rd_ro (b : Nat) (o : Obj) : (rd b o).ro := fun _ _ h => h.1
theorem fact_ro (p : Prop) : (fact p).ro := fun _ _ h => h.1

/-- Every atom of a list owns nothing. -/
theorem Sat.of_ro : ∀ {H : List Atom}, (∀ A ∈ H, A.ro) → ∀ {hx hr : Hp}, Sat H hx hr → ∀ k, hx k = none
  | [], _, _, _, h => h
  | A :: H, hro, _, _, ⟨_, _, j, a, r⟩ => fun _ => j.isNone.2 ⟨hro A (by simp) _ _ a _, Sat.of_ro (fun B hB => hro B (by simp [hB])) r _⟩
theorem ex_ro {α : Type} {f : α → List Atom} (h : ∀ x, ∀ A ∈ f x, A.ro) : (ex f).ro := fun _ _ ⟨x, s⟩ => s.of_ro (h x)

/-! ### The world -/
def InW (w : World) (h : Hp) : Prop := ∀ k o, h k = some o → w.heap[k]? = some o
structure G (w : World) (H : List Atom) (hx hr : Hp) : Prop where
  sat : Sat H hx hr
  own : InW w hx
  red : InW w hr
  dj : Dj hx hr

/-- What a step may have done: no block that is not owned has turned; what is owned behind it was owned or is new; what is read only stays so. -/
structure Stp (w : World) (hx hr : Hp) (w' : World) (hx' hr' : Hp) : Prop where
  os : w'.os = w.os
  tape : w'.tape = w.tape
  output : w'.output = w.output
  size : w.heap.size ≤ w'.heap.size
  keep : ∀ k, k < w.heap.size → hx k = none → w'.heap[k]? = w.heap[k]?
  dom : ∀ k, hx k = none → k < w.heap.size → hx' k = none
  ro : Hp.le hr hr'
  rodom : ∀ k, hx k = none → hr k = none → k < w.heap.size → hr' k = none

theorem InW.lt {w : World} {h : Hp} (hi : InW w h) {k : Nat} {o : Obj} (e : h k = some o) : k < w.heap.size :=
  (Array.getElem?_eq_some_iff.1 (hi k o e)).1
theorem InW.none {w : World} {h : Hp} (hi : InW w h) {k : Nat} (hk : w.heap.size ≤ k) : h k = none := by
  cases e : h k with
  | none => rfl
  | some o => have := hi.lt e; omega

theorem Stp.refl (w : World) (hx hr : Hp) : Stp w hx hr w hx hr :=
  ⟨rfl, rfl, rfl, Nat.le_refl _, fun _ _ _ => rfl, fun _ h _ => h, Hp.le_refl _, fun _ _ h _ => h⟩
theorem Stp.trans {w w1 w2 : World} {hx hr hx1 hr1 hx2 hr2 : Hp} (a : Stp w hx hr w1 hx1 hr1) (b : Stp w1 hx1 hr1 w2 hx2 hr2) : Stp w hx hr w2 hx2 hr2 where
  os := b.os.trans a.os
  tape := b.tape.trans a.tape
  output := b.output.trans a.output
  size := Nat.le_trans a.size b.size
  keep k hk h := (b.keep k (Nat.lt_of_lt_of_le hk a.size) (a.dom k h hk)).trans (a.keep k hk h)
  dom k h hk := b.dom k (a.dom k h hk) (Nat.lt_of_lt_of_le hk a.size)
  ro := Hp.le_trans a.ro b.ro
  rodom k h h' hk := b.rodom k (a.dom k h hk) (a.rodom k h h' hk) (Nat.lt_of_lt_of_le hk a.size)

/-- What stands beside stands behind the step as before. -/
theorem G.frame {w w' : World} {hx hr h1 h2 h1' hr' : Hp} {H' F : List Atom} (j : Join hx h1 h2) (own : InW w hx) (dj : Dj hx hr)
    (s : Stp w h1 hr w' h1' hr') (g : G w' H' h1' hr') (f : Sat F h2 hr) :
    ∃ hx', G w' (H' ++ F) hx' hr' ∧ Stp w hx hr w' hx' hr' := by
  have hlt2 : ∀ k o, h2 k = some o → k < w.heap.size ∧ h1 k = none := fun k o e => by
    refine ⟨own.lt (j.right e), ?_⟩
    rcases j.dj k with h | h
    · exact h
    · rw [h] at e; cases e
  have hd : Dj h1' h2 := fun k => by
    cases e : h2 k with
    | none => exact .inr rfl
    | some o => exact .inl (s.dom k (hlt2 k o e).2 (hlt2 k o e).1)
  have hj := Join.of_dj hd
  refine ⟨both h1' h2, ⟨Sat.append.2 ⟨h1', h2, hj, g.sat, f.mono s.ro⟩, ?_, g.red, ?_⟩, ⟨s.os, s.tape, s.output, s.size, ?_, ?_, s.ro, ?_⟩⟩
  · intro k o e
    rcases hj k with ⟨_, he⟩ | ⟨_, he⟩
    · rw [he] at e
      rw [s.keep k (hlt2 k o e).1 (hlt2 k o e).2]
      exact own k o (j.right e)
    · rw [he] at e
      exact g.own k o e
  · intro k
    cases e : h2 k with
    | none =>
      rcases g.dj k with h | h
      · exact .inl (by simp [both, h, e])
      · exact .inr h
    | some o =>
      refine .inr (s.rodom k (hlt2 k o e).2 ?_ (hlt2 k o e).1)
      rcases dj k with h | h
      · rw [j.right e] at h; cases h
      · exact h
  · exact fun k hk h => s.keep k hk (j.isNone.1 h).1
  · intro k h hk
    obtain ⟨a, b⟩ := j.isNone.1 h
    exact hj.isNone.2 ⟨s.dom k a hk, b⟩
  · exact fun k h h' hk => s.rodom k (j.isNone.1 h).1 h' hk

end Go.SL
