/- Texts: bytes into a text and back, two texts joined. No program is named here; the conditions stand in each law. -/
import Derived.Test.YtdblkhijcijgbaaSLOwn2
import Derived.Laws.BytesString
namespace Go.SL
open Go

variable {c : Cx} {K : List (Nat × Value)} {H : List Atom} {d : Option Tmp} {ty : TypeId} {pos : String} {af : Array Edge} {gd : Option (Nat × Bool)} {t t' yt : TypeId} {x y z : Operand}
variable {α : Type} {E : Enc α} {v : Value} {xs : List α} {k : List Item}

theorem Op1.concat {s u : ByteArray} (hx : evK K x = some (.string s)) (hy : evK K y = some (.string u)) (hn : s.size + u.size ≤ 4294967296) : Op1 c ⟨d, .binOp .add t x y yt, ty, pos, af, gd⟩ K H (ret (.string (s ++ u)) H) :=
  Op1.of_val (by simp) _ fun a w _ _ hK _ => by
    have : ¬ (((s.size + u.size : Nat) : Int) > IntKind.i64.max) := by
      have : IntKind.i64.max = 9223372036854775807 := rfl
      omega
    simp [execOp, hK.eval hx, hK.eval hy, eqGuard_add, binOp, Op.stringOp, this]
    omega

theorem wrap_u64 (n : Int) : 0 ≤ IntKind.u64.wrap n ∧ IntKind.u64.wrap n < 18446744073709551616 := by
  have : IntKind.u64.wrap n = n % 18446744073709551616 := by simp [IntKind.wrap, IntKind.signed, IntKind.bits, IntKind.max, IntKind.min]
  rw [this]
  omega
theorem eqL_self (l : List UInt8) : eqL l l = true := eqL_true.2 rfl
theorem fold_bytes : ∀ (xs : List UInt8) (r : ByteArray), (xs.map fun b => ((b.toNat : Nat) : Int)).foldl (fun r n => r.push (UInt8.ofNat n.toNat)) r = ⟨r.data ++ xs.toArray⟩
  | [], r => by simp
  | x :: xs, r => by
    simp only [List.map_cons, List.foldl_cons]
    rw [fold_bytes xs]
    apply ByteArray.ext
    simp [ByteArray.push]
/-- 'string(b)' -/
theorem Op1.bstr {e : TypeId} {xs : List UInt8} (hs : c.P.underlying t = some (.slice e)) (he : c.P.underlying e = some (.int .u8)) (hd : c.P.underlying t' = some .string) (hx : evK K x = some v) (r : Rds H encU8 v xs) :
    Op1 c ⟨d, .convert t t' x, ty, pos, af, gd⟩ K H (ret (.string ⟨xs.toArray⟩) H) :=
  Op1.of_val (by simp) _ fun a w _ _ hK hG => by
    obtain ⟨p, cap, rfl, hle, hm, hn, hsp, hc⟩ := r.spec hG
    cases p with
    | none =>
      have := hn rfl
      have hxs : xs = [] := List.eq_nil_of_length_eq_zero (by omega)
      subst hxs
      simp only [execOp, hK.eval hx, Sem.run_bind, run_convert_bytes_string w t t' e none _ cap hs he hd, Conv.bytesToString, Sem.run_pure, Result.andThen_ok]
      rfl
    | some ad =>
      have hspot := hsp ad rfl
      obtain ⟨b, o, sp⟩ := ad
      simp only at hspot
      subst hspot
      have hload : (loadCells ⟨b, o, none⟩ xs.length).run c.P w = .ok ((xs.map fun b => ((b.toNat : Nat) : Int)).map (Value.int .u8)).toArray w := by
        have hl := run_loadCells_list (P := c.P) (w := w) ⟨b, o, none⟩ ((xs.map fun b => ((b.toNat : Nat) : Int)).map (Value.int .u8)) (fun q u hq => by
          obtain ⟨b', o', e1, e2⟩ := hc q u (by
            have : encU8.cells xs = (xs.map fun b => ((b.toNat : Nat) : Int)).map (Value.int .u8) := by
              clear hq hc hn hsp hx r hle
              induction xs with
              | nil => rfl
              | cons x xs ih => simp only [Enc.cells, encU8, List.flatMap_cons, List.map_cons] at ih ⊢; rw [ih]; rfl
            rw [this]; exact hq)
          simp only [Option.some.injEq, Addr.mk.injEq, and_true] at e1
          obtain ⟨rfl, rfl⟩ := e1
          rw [Addr.add_lit]
          exact e2)
        simpa using hl
      have hb := run_bytesToString (P := c.P) w ⟨b, o, none⟩ xs.length cap _ hload
      simp only [execOp, hK.eval hx, Sem.run_bind, run_convert_bytes_string w t t' e (some ⟨b, o, none⟩) _ cap hs he hd, hb, fold_bytes]
      simp
end Go.SL
