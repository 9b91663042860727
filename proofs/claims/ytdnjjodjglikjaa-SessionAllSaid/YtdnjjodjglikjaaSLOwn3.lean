/- Texts: bytes into a text and back, two texts joined. No program is named here; the conditions stand in each law. -/
import Derived.Test.YtdnjjodjglikjaaSLOwn2
import Derived.Laws.BytesString
import Derived.LaidEqlPtr
namespace Go.SL
open Go

variable {c : Cx} {K : List (Nat × Value)} {H : List Atom} {d : Option Tmp} {ty : TypeId} {pos : String} {af : Array Edge} {gd : Option (Nat × Bool)} {t t' yt : TypeId} {x y z : Operand}
variable {α : Type} {E : Enc α} {v : Value} {xs : List α} {k : List Item}

theorem Op1.concat {s u : ByteArray} (hx : evK K x = some (.string s)) (hy : evK K y = some (.string u)) (hn : s.size + u.size ≤ 4294967296) : Op1 c ⟨d, .binOp .add t x y yt, ty, pos, af, gd⟩ K H (ret (.string (s ++ u)) H) :=
  Op1.of_val (by simp) _ fun a w _ _ hK _ => by
    have : ¬ (((s.size + u.size : Nat) : Int) > IntKind.i64.max) := by
      have : IntKind.i64.max = 9223372036854775807 := rfl
      omega
    simp [execOp, hK.eval hx, hK.eval hy, eqGuard_add, binOp, Op.stringOp, this]
    omega

theorem wrap_u64 (n : Int) : 0 ≤ IntKind.u64.wrap n ∧ IntKind.u64.wrap n < 18446744073709551616 := by
  have : IntKind.u64.wrap n = n % 18446744073709551616 := by simp [IntKind.wrap, IntKind.signed, IntKind.bits, IntKind.max, IntKind.min]
  rw [this]
  omega
theorem eqL_self (l : List UInt8) : eqL l l = true := eqL_true.2 rfl
theorem fold_bytes : ∀ (xs : List UInt8) (r : ByteArray), (xs.map fun b => ((b.toNat : Nat) : Int)).foldl (fun r n => r.push (UInt8.ofNat n.toNat)) r = ⟨r.data ++ xs.toArray⟩
  | [], r => by simp
  | x :: xs, r => by
    simp only [List.map_cons, List.foldl_cons]
    rw [fold_bytes xs]
    apply ByteArray.ext
    simp [ByteArray.push]
/-- 'string(b)' -/
theorem Op1.bstr {e : TypeId} {xs : List UInt8} (hs : c.P.underlying t = some (.slice e)) (he : c.P.underlying e = some (.int .u8)) (hd : c.P.underlying t' = some .string) (hx : evK K x = some v) (r : Rds H encU8 v xs) :
    Op1 c ⟨d, .convert t t' x, ty, pos, af, gd⟩ K H (ret (.string ⟨xs.toArray⟩) H) :=
  Op1.of_val (by simp) _ fun a w _ _ hK hG => by
    obtain ⟨p, cap, rfl, hle, hm, hn, hsp, hc⟩ := r.spec hG
    cases p with
    | none =>
      have := hn rfl
      have hxs : xs = [] := List.eq_nil_of_length_eq_zero (by omega)
      subst hxs
      simp only [execOp, hK.eval hx, Sem.run_bind, run_convert_bytes_string w t t' e none _ cap hs he hd, Conv.bytesToString, Sem.run_pure, Result.andThen_ok]
      rfl
    | some ad =>
      have hspot := hsp ad rfl
      obtain ⟨b, o, sp⟩ := ad
      simp only at hspot
      subst hspot
      have hload : (loadCells ⟨b, o, none⟩ xs.length).run c.P w = .ok ((xs.map fun b => ((b.toNat : Nat) : Int)).map (Value.int .u8)).toArray w := by
        have hl := run_loadCells_list (P := c.P) (w := w) ⟨b, o, none⟩ ((xs.map fun b => ((b.toNat : Nat) : Int)).map (Value.int .u8)) (fun q u hq => by
          obtain ⟨b', o', e1, e2⟩ := hc q u (by
            have : encU8.cells xs = (xs.map fun b => ((b.toNat : Nat) : Int)).map (Value.int .u8) := by
              clear hq hc hn hsp hx r hle
              induction xs with
              | nil => rfl
              | cons x xs ih => simp only [Enc.cells, encU8, List.flatMap_cons, List.map_cons] at ih ⊢; rw [ih]; rfl
            rw [this]; exact hq)
          simp only [Option.some.injEq, Addr.mk.injEq, and_true] at e1
          obtain ⟨rfl, rfl⟩ := e1
          rw [Addr.add_lit]
          exact e2)
        simpa using hl
      have hb := run_bytesToString (P := c.P) w ⟨b, o, none⟩ xs.length cap _ hload
      simp only [execOp, hK.eval hx, Sem.run_bind, run_convert_bytes_string w t t' e (some ⟨b, o, none⟩) _ cap hs he hd, hb, fold_bytes]
      simp

/-! ### Pointers, both not nil -/
theorem Op1.eqlPs {e : TypeId} {p : Addr} (ht : c.P.underlying t = some (.pointer e)) (hi : (c.P.info? e).isSome = true) (hx : evK K x = some (.pointer (some p))) (hy : evK K y = some (.pointer (some p))) :
    Op1 c ⟨d, .binOp .eql t x y yt, ty, pos, af, gd⟩ K H (ret (.bool true) H) :=
  Op1.of_val (by simp) _ fun a w _ _ hK _ => by
    obtain ⟨j, hj⟩ := Option.isSome_iff_exists.1 hi
    simp [execOp, hK.eval hx, hK.eval hy, eqGuard_at_pointer, run_eql_ptr_same w p ht hj]
theorem Op1.eqlPo {e e1 e2 : TypeId} {b1 b2 o1 o2 : Nat} {l1 l2 : List Value} {H1 H2 : List Atom} (ht : c.P.underlying t = some (.pointer e)) (hi : ((c.P.info? e).map fun j => Nat.blt 0 j.size) = some true) (hx : evK K x = some (.pointer (some ⟨b1, o1, none⟩)))
    (hy : evK K y = some (.pointer (some ⟨b2, o2, none⟩))) (p1 : Pick (blk b1 l1 e1) H H1) (p2 : Pick (blk b2 l2 e2) H1 H2) :
    Op1 c ⟨d, .binOp .eql t x y yt, ty, pos, af, gd⟩ K H (ret (.bool false) H) :=
  Op1.of_val (by simp) _ fun a w hx' hr hK hG => by
    obtain ⟨j, hj, hs⟩ := Option.map_eq_some_iff.1 hi
    obtain ⟨h1, h2, jn, s1, s2⟩ := hG.sat.pick p1
    obtain ⟨h3, h4, jn', s3, _⟩ := s2.pick p2
    have hb1 : h1 b1 = some (.cells ⟨l1⟩ e1 (0, 0)) := by rw [show h1 = one b1 (.cells ⟨l1⟩ e1 (0, 0)) from s1]; simp [one]
    have hb2 : h2 b2 = some (.cells ⟨l2⟩ e2 (0, 0)) := jn'.left (by rw [show h3 = one b2 (.cells ⟨l2⟩ e2 (0, 0)) from s3]; simp [one])
    have hne : b1 ≠ b2 := fun e => by
      subst e
      rcases jn.dj b1 with h | h
      · rw [hb1] at h; cases h
      · rw [hb2] at h; cases h
    have w1 := hG.own _ _ (jn.left hb1)
    have w2 := hG.own _ _ (jn.right hb2)
    have hsz : j.size ≠ 0 := by
      have h0 : Nat.blt 0 j.size = true := hs
      rw [Nat.blt_eq] at h0
      omega
    simp [execOp, hK.eval hx, hK.eval hy, eqGuard_at_pointer, run_eql_ptr_other w (a := ⟨b1, o1, none⟩) (b := ⟨b2, o2, none⟩) ht hj hsz (fun e => hne (by simpa using congrArg Addr.block e)) w1 w2]
end Go.SL
