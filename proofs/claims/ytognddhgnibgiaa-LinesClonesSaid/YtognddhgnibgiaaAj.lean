/- The contracts of an index as one atom; 'same'. -/
import Derived.Test.YtognddhgnibgiaaAi
import Derived.Test.YtognddhgnibgiaaSLDraw4
namespace Go.Proofs.Ytognddhgnibgiaa
open Go Go.SL
set_option maxHeartbeats 4000000
set_option maxRecDepth 20000
set_option linter.unusedSimpArgs false
set_option linter.unusedVariables false
attribute [local irreducible] T TR Op1 Tri DT eqI ltI leI eqL own rsl pt rd elA elI

theorem feeds_pw (s : List UInt8) (k : Int) : (feeds s k).Pairwise (· < ·) := by
  induction s generalizing k with
  | nil => simp [feeds]
  | cons b s ih =>
    simp only [feeds]
    split
    · exact List.pairwise_cons.2 ⟨fun x hx => (feeds_mem hx).1, ih _⟩
    · exact ih _
theorem starts_pw (s : List UInt8) : (starts s).Pairwise (· < ·) := List.pairwise_cons.2 ⟨fun x hx => (feeds_mem hx).1, feeds_pw s 0⟩
theorem posL_start {s : List UInt8} {k : Nat} {st : Int} (h : (starts s)[k]? = some st) (h1 : st ≤ s.length) : posL s st.toNat = k ∧ posC s st.toNat = 0 := by
  have h0 : 0 ≤ st := by
    rcases List.mem_cons.1 (List.mem_of_getElem? h) with rfl | hm
    · omega
    · have := feeds_mem hm; omega
  obtain ⟨n, rfl⟩ : ∃ n : Nat, st = n := ⟨st.toNat, by omega⟩
  rw [Int.toNat_natCast]
  have ha := starts_at s (n := n) (by omega)
  have hb := (lastS_bounds (s := s) (n := n)).2
  have hsp := starts_split s (n := n) (by omega)
  have hl : (starts (s.take n)).length = 1 + posL s n := starts_length _
  have hpw := List.pairwise_iff_getElem.1 (starts_pw s)
  have hk : k < (starts s).length := (List.getElem?_eq_some_iff.1 h).1
  have hq : posL s n < (starts s).length := (List.getElem?_eq_some_iff.1 ha).1
  have ek : (starts s)[k] = n := (List.getElem?_eq_some_iff.1 h).2
  have eq : (starts s)[posL s n] = lastS (s.take n) := (List.getElem?_eq_some_iff.1 ha).2
  have hkl : k ≤ posL s n := by
    refine Nat.le_of_not_lt fun hlt => ?_
    rw [hsp, List.getElem?_append_right (by omega)] at h
    have := feeds_mem (List.mem_of_getElem? h)
    omega
  have hke : k = posL s n := by
    refine Nat.le_antisymm hkl (Nat.le_of_not_lt fun hlt => ?_)
    have := hpw k (posL s n) hk hq hlt
    omega
  subst hke
  refine ⟨rfl, ?_⟩
  unfold posC
  rw [← eq, ek]; omega
theorem offP_start {s : List UInt8} {line : Int} : offV (offP s line 0) = .tuple #[.int .i64 (if Ytognddhgnibgiaa.inR line (starts s).length = true then (starts s).getD line.toNat 0 else 0), .bool (Ytognddhgnibgiaa.inR line (starts s).length)] := by
  by_cases hi : 0 ≤ line ∧ line < (starts s).length
  · rw [show Ytognddhgnibgiaa.inR line (starts s).length = true from decide_eq_true hi, if_pos rfl]
    obtain ⟨st, hst⟩ := get_of (l := starts s) (i := line.toNat) (by omega)
    have hg : (starts s).getD line.toNat 0 = st := by rw [List.getD_eq_getElem?_getD, hst]; rfl
    have hb : 0 ≤ st ∧ st ≤ s.length := by
      rcases List.mem_cons.1 (List.mem_of_getElem? hst) with rfl | hm
      · omega
      · have := feeds_mem hm; omega
    have hp := posL_start hst hb.2
    rw [offP_in hi hg, Int.add_zero, if_pos ⟨by omega, by omega, by omega⟩, hg]
    rfl
  · rw [show Ytognddhgnibgiaa.inR line (starts s).length = false from decide_eq_false hi, if_neg (by simp), offP_out hi]
    rfl
theorem idxK {f : FuncId} {args : Array Value} {r : Value} (p : Nat) (s : ByteArray) (hc : ∀ (args : Array Value) (w : World), (callFunc f args).run Try.prog w = .ok (.enter f args) w)
    (h : ∀ v, Tri Try.prog f args [ib p v s.size, rsl encI v (starts (tx s))] (ret r [ib p v s.size, rsl encI v (starts (tx s))])) : Tri Try.prog f args [idx p s] (ret r [idx p s]) := by
  refine Tri.exP (A := fun v => [ib p v s.size, rsl encI v (starts (tx s))]) (Pre := []) hc fun v => Tri.conv (h v) ?_
  rintro r' H ⟨rfl, rfl⟩
  refine ⟨[idx p s], ⟨rfl, rfl⟩, fun hx hr st => Sat.splitNil (H := [ib p v s.size, rsl encI v (starts (tx s))]) (by apply Split.ex v; (repeat (first | exact Split.nil | apply Split.own | exact Pick.here | apply Pick.there))) st⟩
theorem posI (p : Nat) (s : ByteArray) (n : Int) (hs : s.size ≤ 100000000) : Tri Try.prog 12 #[ptr p, .int .i64 n] [idx p s] (ret (posV s n) [idx p s]) := by
  refine idxK p s Try.call12 fun v => ?_
  unfold posV
  split
  · rename_i h
    obtain ⟨m, rfl⟩ : ∃ m : Nat, n = m := ⟨n.toNat, by omega⟩
    exact pos0 p v s m hs (by omega)
  · exact posBad p v s n (by omega)
theorem refPosV (s : ByteArray) (n : Int) (hs : s.size ≤ 100000000) : Fun Try.prog 25 #[.string s, .int .i64 n] (posV s n) := by
  unfold posV
  split
  · rename_i h
    obtain ⟨m, rfl⟩ : ∃ m : Nat, n = m := ⟨n.toNat, by omega⟩
    exact refPos s m hs (by omega)
  · exact refPosBad s n (by omega)
theorem offI (p : Nat) (s : ByteArray) (line col : Int) (hs : s.size ≤ 100000000) : Tri Try.prog 13 #[ptr p, .int .i64 line, .int .i64 col] [idx p s] (ret (offV (offP (tx s) line col)) [idx p s]) :=
  idxK p s Try.call13 fun v => offX p v s line col hs
theorem startI (p : Nat) (s : ByteArray) (line : Int) : Tri Try.prog 14 #[ptr p, .int .i64 line] [idx p s] (ret (offV (offP (tx s) line 0)) [idx p s]) :=
  idxK p s Try.call14 fun v => by rw [offP_start]; exact start0 p v s.size (starts (tx s)) line (starts_ne _)
theorem posV_shape (s : ByteArray) (n : Int) : ∃ a b c, posV s n = .tuple #[.int .i64 a, .int .i64 b, .bool c] := by
  unfold posV
  split
  · exact ⟨_, _, _, rfl⟩
  · exact ⟨_, _, _, rfl⟩
theorem offV_shape (o : Option Int) : ∃ a c, offV o = .tuple #[.int .i64 a, .bool c] := by
  cases o
  · exact ⟨_, _, rfl⟩
  · exact ⟨_, _, rfl⟩
theorem same (p : Nat) (s : ByteArray) (line col n : Int) (hs : s.size ≤ 1000000) : Tri Try.prog 16 #[ptr p, .string s, .int .i64 line, .int .i64 col, .int .i64 n] [idx p s] (ret (.bool true) [idx p s]) := by
  refine Tri.of_T (args := [_, _, _, _, _]) Try.call16 Try.func16 rfl ?_
  have g1 := linesX p s
  have g2 := lenX p s
  have g3 := refLines s (by omega)
  have g4 := posI p s n (by omega)
  have g5 := refPosV s n (by omega)
  have g6 := offI p s line col (by omega)
  have g7 := refOffset s line col (by omega)
  have g8 := startI p s line
  have g9 := refOffset s line 0 (by omega)
  obtain ⟨a1, a2, a3, e1⟩ := posV_shape s n
  obtain ⟨b1, b2, e2⟩ := offV_shape (offP (tx s) line col)
  obtain ⟨c1, c2, e3⟩ := offV_shape (offP (tx s) line 0)
  rw [e1] at g4 g5
  rw [e2] at g6 g7
  rw [e3] at g8 g9
  repeat' first | (apply TR.val2 rfl rfl; first | (refine Op1.isCallF 15 ?_; exact Op1.callk rfl rfl (g1) (by (repeat (first | exact Take.nil | apply Take.cons | exact Pick.here | apply Pick.there)))) | (refine Op1.isCallF 18 ?_; exact Op1.callk rfl rfl (g2) (by (repeat (first | exact Take.nil | apply Take.cons | exact Pick.here | apply Pick.there)))) | (refine Op1.isCallF 24 ?_; exact Op1.callv rfl rfl (g3)) | (refine Op1.isCallF 12 ?_; exact Op1.callk rfl rfl (g4) (by (repeat (first | exact Take.nil | apply Take.cons | exact Pick.here | apply Pick.there)))) | (refine Op1.isCallF 25 ?_; exact Op1.callv rfl rfl (g5)) | (refine Op1.isCallF 13 ?_; exact Op1.callk rfl rfl (g6) (by (repeat (first | exact Take.nil | apply Take.cons | exact Pick.here | apply Pick.there)))) | (refine Op1.isCallF 14 ?_; exact Op1.callk rfl rfl (g8) (by (repeat (first | exact Take.nil | apply Take.cons | exact Pick.here | apply Pick.there)))) | (refine Op1.isCallF 26 ?_; exact Op1.callv rfl rfl (g7)) | (refine Op1.isCallF 26 ?_; exact Op1.callv rfl rfl (g9)) | exact Op1.move rfl | exact Op1.assign rfl | exact Op1.fieldAddr rfl rfl | exact Op1.pick_true rfl rfl | exact Op1.pick_false rfl rfl | exact Op1.extract rfl rfl | exact Op1.faO rfl rfl | (refine Op1.isLoad ?_; first | exact Op1.load rfl rfl (by (first | (apply Has.own; (repeat (first | exact Pick.here | apply Pick.there)); done) | (apply Has.red; (repeat (first | exact Pick.here | apply Pick.there)); done))) (by rfl) | exact Op1.loadS rfl rfl (by (first | (apply Has.own; (repeat (first | exact Pick.here | apply Pick.there)); done) | (apply Has.red; (repeat (first | exact Pick.here | apply Pick.there)); done))) (by (repeat (first | exact SubL.nil | apply SubL.zero | apply SubL.succ)))) | exact Op1.lss rfl rfl | exact Op1.leq rfl rfl | exact Op1.gtr rfl rfl | exact Op1.geq rfl rfl | exact Op1.eql rfl rfl | exact Op1.neq rfl rfl | exact Op1.eqlB rfl rfl rfl | exact Op1.neqB rfl rfl rfl | exact Op1.not rfl | exact Op1.nilCheck rfl | (refine Op1.isBin .add ?_; exact Op1.addI rfl rfl (by omega) (by omega)) | (refine Op1.isBin .sub ?_; exact Op1.subI rfl rfl (by omega) (by omega)) | (refine Op1.isBin .mul ?_; exact Op1.mulI rfl rfl (by omega) (by omega)) | exact Op1.eqlS rfl rfl | exact Op1.neqS rfl rfl | (refine Op1.isIndex ?_; exact Op1.indexS rfl rfl rfl (by omega) (by omega)) | exact Op1.eqlPn rfl rfl rfl | exact Op1.neqPn rfl rfl rfl | exact Op1.eqlCn rfl rfl rfl | (refine Op1.isBuiltin .len ?_; first | exact Op1.lenS rfl rfl | exact Op1.lenO rfl rfl (by (first | (apply Rds.own; (repeat (first | exact Pick.here | apply Pick.there)); done) | (apply Rds.ro; (repeat (first | exact Pick.here | apply Pick.there)); done))) | exact Op1.lenL rfl rfl) | exact Op1.min rfl rfl | exact Op1.max rfl rfl | (refine Op1.isIdxAddr ?_; first | exact Op1.indexAddrA rfl rfl rfl rfl (by omega) (by omega) | exact Op1.idxO rfl rfl (by (first | (apply Rds.own; (repeat (first | exact Pick.here | apply Pick.there)); done) | (apply Rds.ro; (repeat (first | exact Pick.here | apply Pick.there)); done))) (by rfl) rfl (by omega) (by omega)) | (refine Op1.isBuild ?_; exact Op1.build rfl (by (first | exact CellsR.agg | exact CellsR.one rfl | exact CellsR.one (by assumption))) rfl rfl (by (repeat (first | exact Fill.nil | exact CellsR.agg | exact CellsR.one rfl | exact CellsR.one (by assumption) | exact Upd.nil | apply Upd.zero | apply Upd.succ | apply Fill.cons | exact rfl)))) | exact Op1.makeFunc rfl rfl | (refine Op1.isSlice ?_; exact Op1.sliceS rfl rfl rfl rfl (by omega) (by omega) (by omega)) | exact Op1.convert rfl rfl rfl | (refine Op1.isBin .rem ?_; exact Op1.rem rfl rfl (by omega) (by omega))) | refine T.seq ?_ | refine T.region ?_ | refine TR.nil ?_ | refine T.block ?_ | refine T.inBlock ?_ | refine T.skip ?_ | refine T.exit rfl ?_ | refine T.cond_true rfl ?_ | refine T.cond_false rfl ?_ | (refine T.cond _ rfl (fun h => ?_) (fun h => ?_) <;> ((try simp only [leI_true, leI_false, ltI_true, ltI_false, eqI_true, eqI_false, eqL_true, eqL_false, Bool.not_eq_true', Bool.not_eq_false', Bool.not_not, Bool.and_eq_true, Bool.or_eq_false_iff, ne_eq, not_true_eq_false, beq_self_eq_true, reduceCtorEq] at h); try (first | contradiction | (exfalso; omega)))) | (apply TR.act2 rfl; first | (refine Op1.isStore ?_; exact Op1.store rfl rfl rfl (by (first | exact CellsR.agg | exact CellsR.one rfl | exact CellsR.one (by assumption))) (by rfl) (by first | rfl | ((repeat (first | exact ones_nil | refine ones_cons (by first | rfl | assumption) ?_)))) (by (repeat (first | exact Pick.here | apply Pick.there))) (by (repeat (first | exact Upd.nil | apply Upd.zero | apply Upd.succ))))) | refine TR.pass rfl rfl rfl ?_ | (refine TR.anyv (Op1.box rfl) rfl rfl ?_; rintro _ _ ⟨b, rfl, rfl⟩) | (refine TR.anyv (Op1.alloc rfl rfl) rfl rfl ?_; rintro _ _ ⟨b, rfl, rfl⟩) | ((fail_if_success (refine TR.known rfl rfl ?_)); refine TR.split rfl rfl (fun h => ?_) (fun h => ?_) <;> ((try simp only [leI_true, leI_false, ltI_true, ltI_false, eqI_true, eqI_false, eqL_true, eqL_false, Bool.not_eq_true', Bool.not_eq_false', Bool.not_not, Bool.and_eq_true, Bool.or_eq_false_iff, ne_eq, not_true_eq_false, beq_self_eq_true, reduceCtorEq] at h); try (first | contradiction | (exfalso; omega))))
  refine T.ret rfl rfl (by first | exact res1 rfl rfl | exact res2 rfl rfl rfl | exact res3 rfl rfl rfl rfl | exact res0 rfl) (by (repeat (first | exact Split.nil | apply Split.own | exact Pick.here | apply Pick.there))) ⟨?_, rfl⟩
  exact congrArg Value.bool (by cases c2 <;> rfl)
end Go.Proofs.Ytognddhgnibgiaa
