/- A text's bytes as a slice: '[]byte(s)'; a block that nobody writes any more. No program is named here; the conditions stand in each law. -/
import Derived.Test.YtdblkhijcijgbaaSLDraw4
import Derived.Test.YtdblkhijcijgbaaSLOwn2
import Derived.Laws.IdiomStrings
namespace Go.SL
open Go

theorem G.shutPt {w : World} {b : Nat} {o : Obj} {H1 : List Atom} {hx hr : Hp} (h7 : G w (pt b o :: H1) hx hr) : ∃ hx' hr', G w (rd b o :: H1) hx' hr' ∧ Stp w hx hr w hx' hr' := by
  obtain ⟨g1, g2, j, s1, s2⟩ := h7.sat
  have s1 : g1 = one b o := s1
  subst s1
  have hxg : hx b = some o := j.left (by simp [one])
  have hrg : hr b = none := by
    rcases h7.dj b with h | h
    · rw [hxg] at h; cases h
    · exact h
  have g2g : g2 b = none := by
    rcases j.dj b with h | h
    · simp [one] at h
    · exact h
  let hr' : Hp := fun k => if k = b then some o else hr k
  have hle : Hp.le hr hr' := fun k u e => by
    by_cases hk : k = b
    · subst hk; rw [hrg] at e; cases e
    · simp [hr', hk, e]
  refine ⟨g2, hr', ⟨⟨emp, g2, .emp_left g2, ⟨fun _ => rfl, by simp [hr']⟩, s2.mono hle⟩, fun k u e => h7.own k u (j.right e), fun k u ek => ?_, fun k => ?_⟩, ⟨rfl, rfl, rfl, Nat.le_refl _, fun _ _ _ => rfl, fun k h _ => (j.isNone.1 h).2, hle, fun k h h' _ => ?_⟩⟩
  · by_cases hk : k = b
    · subst hk
      simp [hr'] at ek
      subst ek
      exact h7.own _ _ hxg
    · simp [hr', hk] at ek
      exact h7.red k u ek
  · by_cases hk : k = b
    · subst hk; exact .inl g2g
    · rcases h7.dj k with h | h
      · exact .inl (j.isNone.1 h).2
      · exact .inr (by simp [hr', hk, h])
  · have hk : k ≠ b := fun e => by rw [e, hxg] at h; cases h
    simp [hr', hk, h']

variable {c : Cx} {K : List (Nat × Value)} {H : List Atom} {d : Option Tmp} {ty : TypeId} {pos : String} {af : Array Edge} {gd : Option (Nat × Bool)} {t t' : TypeId} {x : Operand}
theorem Op1.bytes {e : TypeId} {s : ByteArray} (hs : c.P.underlying t = some .string) (hd : c.P.underlying t' = some (.slice e)) (he : c.P.underlying e = some (.int .u8)) (hx : evK K x = some (.string s)) (hm : s.size ≤ 1000000) :
    Op1 c ⟨d, .convert t t' x, ty, pos, af, gd⟩ K H (fun v H' => H' = rsl encU8 v s.data.toList :: H) :=
  Op1.of_run (by simp) fun a w hx' hr hK hG => by
    have hrun := run_bytes_of_string (P := c.P) w t t' e s hs hd he
    obtain ⟨hx2, g, st⟩ := hG.new (w' := w.drew.alloc (.cells (bytesRow s (grownCap w s.size 0 e)) e ((bytesRow s (grownCap w s.size 0 e)).size, (bytesRow s (grownCap w s.size 0 e)).size + 1))) rfl rfl rfl rfl
    obtain ⟨hx3, hr3, g3, st3⟩ := g.shutPt
    refine ⟨.slice (some ⟨w.heap.size, 0, none⟩) s.size (grownCap w s.size 0 e), _, _, hx3, hr3, rfl, ?_, st.trans st3, .inl ?_⟩
    · obtain ⟨h5, h6, j, ⟨e5, r5⟩, s'⟩ := g3.sat
      have hl : s.data.toList.length = s.size := by simp
      have hge : s.size ≤ grownCap w s.size 0 e := by simpa using grownCap_ge w s.size 0 e
      have hle : grownCap w s.size 0 e ≤ maxLen := grownCap_le_maxLen w s.size 0 e (by unfold maxLen; omega)
      refine ⟨⟨h5, h6, j, ⟨e5, .inr ⟨w.heap.size, 0, grownCap w s.size 0 e, _, e, _, by rw [hl], by omega, hle, r5, ?_⟩⟩, s'⟩, g3.own, g3.red, g3.dj⟩
      have hc : encU8.cells s.data.toList = s.data.toList.map fun b => Value.int .u8 (b.toNat : Int) := by
        generalize s.data.toList = l
        induction l with
        | nil => rfl
        | cons b l ih => simp only [Enc.cells, List.flatMap_cons, List.map_cons]; rw [← ih]; rfl
      have hs1 : encU8.s = 1 := rfl
      rw [hc, hs1]
      simp only [bytesRow, Array.toList_append, Array.toList_map, List.drop_zero]
      rw [List.take_left' (by simp)]
    · simp only [execOp, hK.eval hx, Sem.run_bind, hrun, Result.andThen_ok]
      rfl
end Go.SL
