/- A peer on plain data; no program here. -/
import Derived.Test.YtdnjjodjglikjaaWa
namespace Go.Proofs.Ytdnjjodjglikjaa
open Go Go.SL

structure PG where
  F : List ByteArray
  a : Nat
  u : Nat
  E : List (Int × ByteArray)
  ck : Nat
  td : Nat
  ow : Bool
  ag : Bool
  ep : Int
abbrev Pk := Int × Int × Int × ByteArray
def newG (ep : Int) : PG := ⟨[], 0, 0, [], 0, 0, false, false, ep⟩
def sendG (m : Nat) (g : PG) (x : ByteArray) : PG × Int := if 65536 < x.size then (g, 11) else if m ≤ g.F.length - g.a then (g, 141) else ({ g with F := g.F ++ [x] }, 0)
def numB (n : Int) : Bool := decide (0 ≤ n ∧ n ≤ 4611686018427387904)
def goodK (x : Pk) : Bool := numB x.1 && numB x.2.1 && numB x.2.2.1 && decide (x.2.2.2.size ≤ 65536) && (decide (0 < x.2.1) || decide (x.2.2.2.data.toList = []))
def ackG (g : PG) (n : Int) : PG := { g with a := g.a + skipN (n - g.a) (g.F.length - g.a), ck := if 0 < skipN (n - g.a) (g.F.length - g.a) then 0 else g.ck }
def comeG (m : Nat) (g : PG) (n : Int) (x : ByteArray) : PG := { g with u := (come m g.u g.E n x).2.1, E := (come m g.u g.E n x).2.2.1, ow := true }
def hearG (m : Nat) (g : PG) (x : Pk) : PG × List ByteArray × Int :=
  if goodK x = false ∨ (g.F.length : Int) < x.2.2.1 then (g, [], 2)
  else if x.1 ≠ g.ep then (g, [], 140)
  else if x.2.1 = 0 then (ackG g x.2.2.1, [], 0)
  else if (come m g.u g.E x.2.1 x.2.2.2).1 ≠ 0 then (ackG g x.2.2.1, [], (come m g.u g.E x.2.1 x.2.2.2).1)
  else (comeG m (ackG g x.2.2.1) x.2.1 x.2.2.2, (come m g.u g.E x.2.1 x.2.2.2).2.2.2, 0)
def tickG (w : Nat) (g : PG) : PG := if g.a = g.F.length then { g with ck := 0 } else if w ≤ g.ck + 1 then { g with ck := 0, ag := true } else { g with ck := g.ck + 1 }
def fromG (g : PG) : Nat := if g.ag = true then g.a else Max.max g.td g.a
def pkG (g : PG) (j : Nat) : Pk := (g.ep, ((j + 1 : Nat) : Int), (g.u : Int), g.F.getD j ⟨#[]⟩)
def dueG (g : PG) (n : Nat) : List Pk := (List.range' (fromG g) (n - fromG g)).map (pkG g)
def toldG (g : PG) : List Pk := if (dueG g g.F.length).length = 0 ∧ g.ow = true then [(g.ep, 0, (g.u : Int), ⟨#[]⟩)] else dueG g g.F.length
def flushG (g : PG) : PG := { g with td := g.F.length, ow := false, ag := false }
def resetG (g : PG) (n : Int) : PG × Int := if n ≤ g.ep ∨ 4611686018427387904 < n then (g, 140) else (newG n, 0)
def idleG (g : PG) : Bool := decide (g.a = g.F.length) && !g.ow
/-- The bounds that a peer keeps. -/
structure POk (m i : Nat) (g : PG) : Prop where
  sent : g.F.length ≤ i
  acked : g.a ≤ g.F.length
  full : g.F.length - g.a ≤ m
  heard : g.u + g.E.length ≤ i
  told : g.td ≤ g.F.length
  clock : g.ck ≤ i
  num : 0 ≤ g.ep ∧ g.ep ≤ 4611686018427387904
theorem POk.mono {m i j : Nat} {g : PG} (h : POk m i g) (hij : i ≤ j) : POk m j g := ⟨by have := h.sent; omega, h.acked, h.full, by have := h.heard; omega, h.told, by have := h.clock; omega, h.num⟩
theorem newG_ok (m i : Nat) {ep : Int} (h : 0 ≤ ep ∧ ep ≤ 4611686018427387904) : POk m i (newG ep) := ⟨by simp [newG], by simp [newG], by simp [newG], by simp [newG], by simp [newG], by simp [newG], h⟩
theorem sendG_ok {m i : Nat} {g : PG} (h : POk m i g) (x : ByteArray) : POk m (i + 1) (sendG m g x).1 := by
  unfold sendG
  have := h.acked
  have := h.sent
  have := h.told
  have := h.heard
  have := h.clock
  split
  · exact h.mono (by omega)
  split
  · exact h.mono (by omega)
  · exact ⟨by simp; omega, by simp; omega, by simp; omega, by simp only; omega, by simp; omega, by simp only; omega, h.num⟩
theorem skipN_le (n : Int) (k : Nat) : skipN n k ≤ k := by unfold skipN; omega
theorem ackG_ok {m i : Nat} {g : PG} (h : POk m i g) (n : Int) : POk m i (ackG g n) := by
  have := h.acked
  have := h.full
  have := h.clock
  have := skipN_le (n - g.a) (g.F.length - g.a)
  exact ⟨h.sent, by simp only [ackG]; omega, by simp only [ackG]; omega, h.heard, h.told, by simp only [ackG]; split <;> omega, h.num⟩
theorem come_len {α : Type} (m u : Nat) (E : List (Int × α)) (n : Int) (x : α) : (come m u E n x).2.1 + (come m u E n x).2.2.1.length ≤ u + E.length + 1 ∧ (come m u E n x).2.2.2.length ≤ E.length + 1 := by
  unfold come
  split
  · exact ⟨by simp only; omega, by simp⟩
  split
  · exact ⟨by simp only; omega, by simp⟩
  split
  · exact ⟨by simp only; omega, by simp⟩
  · have hs := settle_len (E ++ [(n, x)]).length u (E ++ [(n, x)])
    simp only [List.length_append, List.length_cons, List.length_nil] at hs ⊢
    omega
theorem comeG_ok {m i : Nat} {g : PG} (h : POk m i g) (n : Int) (x : ByteArray) : POk m (i + 1) (comeG m g n x) := by
  have := h.heard
  have := h.sent
  have := h.clock
  have := come_len m g.u g.E n x
  exact ⟨by simp only [comeG]; omega, h.acked, h.full, by simp only [comeG]; omega, h.told, by simp only [comeG]; omega, h.num⟩
theorem hearG_ok {m i : Nat} {g : PG} (h : POk m i g) (x : Pk) : POk m (i + 1) (hearG m g x).1 := by
  unfold hearG
  split
  · exact h.mono (by omega)
  split
  · exact h.mono (by omega)
  split
  · exact (ackG_ok h _).mono (by omega)
  split
  · exact (ackG_ok h _).mono (by omega)
  · exact comeG_ok (ackG_ok h _) _ _
theorem tickG_ok {m i : Nat} {w : Nat} {g : PG} (h : POk m i g) : POk m (i + 1) (tickG w g) := by
  unfold tickG
  have h1 := h.sent
  have h4 := h.heard
  have h6 := h.clock
  split
  · exact ⟨by simp only; omega, h.acked, h.full, by simp only; omega, h.told, by simp, h.num⟩
  split
  · exact ⟨by simp only; omega, h.acked, h.full, by simp only; omega, h.told, by simp, h.num⟩
  · exact ⟨by simp only; omega, h.acked, h.full, by simp only; omega, h.told, by simp only; omega, h.num⟩
theorem flushG_ok {m i : Nat} {g : PG} (h : POk m i g) : POk m i (flushG g) := ⟨h.sent, h.acked, h.full, h.heard, Nat.le_refl _, h.clock, h.num⟩
theorem resetG_ok {m i : Nat} {g : PG} (h : POk m i g) (n : Int) : POk m i (resetG g n).1 := by
  unfold resetG
  have := h.num
  split
  · exact h
  · exact newG_ok m i (by omega)
theorem dueG_len (g : PG) (n : Nat) : (dueG g n).length = n - fromG g := by simp [dueG]
theorem dueG_step {g : PG} {n : Nat} (h : fromG g ≤ n) : dueG g (n + 1) = dueG g n ++ [pkG g n] := by
  unfold dueG
  rw [show n + 1 - fromG g = (n - fromG g) + 1 from by omega, List.range'_concat, List.map_append, show fromG g + 1 * (n - fromG g) = n from by omega]
  rfl
theorem dueG_none {g : PG} {n : Nat} (h : n ≤ fromG g) : dueG g n = [] := by
  unfold dueG
  rw [show n - fromG g = 0 from by omega]
  rfl
end Go.Proofs.Ytdnjjodjglikjaa
