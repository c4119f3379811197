import Derived.Test.YtpdajkbfemcdlaaGeD
import Derived.Test.YtpdajkbfemcdlaaChecked
import Derived.Test.YtpdajkbfemcdlaaFn
import Derived.KernelRfl
set_option linter.unusedSimpArgs false
namespace Go.Proofs.Ytpdajkbfemcdlaa
open Go.Ge
/-- The m least significant bytes of a number, the most significant first. -/
def beBytes (n : Int) : Nat → List Int
  | 0 => []
  | m + 1 => beBytes (n / 256) m ++ [n % 256]
theorem beBytes_length (n : Int) (m : Nat) : (beBytes n m).length = m := by
  induction m generalizing n with
  | zero => rfl
  | succ m ih => simp [beBytes, ih]
end Go.Proofs.Ytpdajkbfemcdlaa
/- Annotated code of functions, checked against the program. -/
namespace Go.Proofs.Ytpdajkbfemcdlaa
open Go.Ge
/-- gantry/msg.Same -/
def C.msg_Same : ACode :=
  .seq (.region [
    ⟨some 2, .bx true (.t 0), none⟩, 
    ⟨some 3, .bx true (.t 1), none⟩, 
    ⟨some 4, .move false (.c (.bool false)), none⟩]) (
  .seq (.region [
    ⟨some 5, .faddr 0 (.t 2), none⟩, 
    ⟨some 6, .load 2 false 1 (.t 5), none⟩, 
    ⟨some 7, .faddr 0 (.t 3), none⟩, 
    ⟨some 8, .load 2 false 1 (.t 7), none⟩, 
    ⟨some 9, .bin .eql (.t 6) (.t 8), none⟩, 
    ⟨some 10, .move false (.t 9), none⟩, 
    ⟨some 11, .faddr 1 (.t 2), (some (10, true))⟩, 
    ⟨some 12, .load 2 false 1 (.t 11), (some (10, true))⟩, 
    ⟨some 13, .faddr 1 (.t 3), (some (10, true))⟩, 
    ⟨some 14, .load 2 false 1 (.t 13), (some (10, true))⟩, 
    ⟨some 15, .bin .eql (.t 12) (.t 14), (some (10, true))⟩, 
    ⟨some 16, .pick (.t 10) (.t 15) (.c (.bool false)), none⟩, 
    ⟨some 17, .move false (.t 16), none⟩, 
    ⟨some 18, .faddr 2 (.t 2), (some (17, true))⟩, 
    ⟨some 19, .load 2 false 1 (.t 18), (some (17, true))⟩, 
    ⟨some 20, .faddr 2 (.t 3), (some (17, true))⟩, 
    ⟨some 21, .load 2 false 1 (.t 20), (some (17, true))⟩, 
    ⟨some 22, .bin .eql (.t 19) (.t 21), (some (17, true))⟩, 
    ⟨some 23, .pick (.t 17) (.t 22) (.c (.bool false)), none⟩, 
    ⟨some 24, .move false (.t 23), none⟩, 
    ⟨some 25, .faddr 3 (.t 2), (some (24, true))⟩, 
    ⟨some 26, .load 2 false 1 (.t 25), (some (24, true))⟩, 
    ⟨some 27, .faddr 3 (.t 3), (some (24, true))⟩, 
    ⟨some 28, .load 2 false 1 (.t 27), (some (24, true))⟩, 
    ⟨some 29, .bin .eql (.t 26) (.t 28), (some (24, true))⟩, 
    ⟨some 30, .pick (.t 24) (.t 29) (.c (.bool false)), none⟩, 
    ⟨some 31, .move false (.t 30), none⟩, 
    ⟨some 32, .faddr 4 (.t 2), (some (31, true))⟩, 
    ⟨some 33, .load 2 false 1 (.t 32), (some (31, true))⟩, 
    ⟨some 34, .faddr 4 (.t 3), (some (31, true))⟩, 
    ⟨some 35, .load 2 false 1 (.t 34), (some (31, true))⟩, 
    ⟨some 36, .bin .eql (.t 33) (.t 35), (some (31, true))⟩, 
    ⟨some 37, .pick (.t 31) (.t 36) (.c (.bool false)), none⟩, 
    ⟨some 38, .move false (.t 37), none⟩, 
    ⟨some 39, .faddr 5 (.t 2), (some (38, true))⟩, 
    ⟨some 40, .load 2 false 1 (.t 39), (some (38, true))⟩, 
    ⟨some 41, .faddr 5 (.t 3), (some (38, true))⟩, 
    ⟨some 42, .load 2 false 1 (.t 41), (some (38, true))⟩, 
    ⟨some 43, .call true F.slices_Equal_Cell [(.t 40), (.t 42)], (some (38, true))⟩, 
    ⟨some 44, .pick (.t 38) (.t 43) (.c (.bool false)), none⟩, 
    ⟨some 4, .move false (.t 44), none⟩]) (
  .ret))
def R.msg_Same : List ARes := [.t 4]
set_option maxRecDepth 100000 in
theorem K.msg_Same : ckFun Try.prog Try.f47 C.msg_Same R.msg_Same = true := by kernel_rfl
/-- gantry/msg.Copy -/
def C.msg_Copy : ACode :=
  .seq (.region [
    ⟨some 1, .bx true (.t 0), none⟩, 
    ⟨some 2, .alloc false [(.int .i64 0), (.int .i64 0), (.int .i64 0), (.int .i64 0), (.int .u32 0), (.lst .nil [])], none⟩]) (
  .seq (.region [
    ⟨some 3, .faddr 5 (.t 1), none⟩, 
    ⟨some 4, .load 2 false 1 (.t 3), none⟩, 
    ⟨some 5, .call true F.slices_Clone_Cell [(.t 4)], none⟩, 
    ⟨some 6, .faddr 5 (.t 1), none⟩, 
    ⟨none, .store 1 (.t 6) (.t 5), none⟩]) (
  .seq (.region [
    ⟨some 7, .load 2 true 6 (.t 1), none⟩, 
    ⟨none, .store 6 (.t 2) (.t 7), none⟩]) (
  .ret)))
def R.msg_Copy : List ARes := [.c 2 true 6]
set_option maxRecDepth 100000 in
theorem K.msg_Copy : ckFun Try.prog Try.f49 C.msg_Copy R.msg_Copy = true := by kernel_rfl
/-- slices.Equal[[]gantry/api.Cell,gantry/api.Cell] -/
def C.slices_Equal_Cell : ACode :=
  .seq (.region [
    ⟨some 4, .move false (.c (.bool false)), none⟩]) (
  .seq (.seq (.region [
    ⟨some 6, .move false (.t 0), none⟩, 
    ⟨some 7, .len (.t 6), none⟩, 
    ⟨some 8, .move false (.t 1), none⟩, 
    ⟨some 9, .len (.t 8), none⟩, 
    ⟨some 10, .bin .neq (.t 7) (.t 9), none⟩]) (
  .cond (.t 10) (.seq (.region [
    ⟨some 4, .move false (.c (.bool false)), none⟩]) (
  .ret)) (.skip))) (
  .seq (.seq (.region [
    ⟨some 11, .move false (.t 0), none⟩, 
    ⟨some 12, .len (.t 11), none⟩, 
    ⟨some 13, .move false (.c (.int .i64 0)), none⟩]) (
  .block 0 (.loop (.seq (.region [
    ⟨some 14, .bin .lss (.t 13) (.t 12), none⟩]) (
  .seq (.cond (.t 14) (.skip) (.exit 0)) (
  .seq (.block 1 (.seq (.region [
    ⟨some 15, .move false (.t 13), none⟩, 
    ⟨some 5, .move false (.t 15), none⟩]) (
  .seq (.drawn [0, 1, 2, 3, 4, 5, 6, 7, 8] [0, 0, 3, 7, 0, 0, 48, 112, 255] [
    ⟨some 16, .move false (.t 0), none⟩, 
    ⟨some 17, .move false (.t 5), none⟩, 
    ⟨some 18, .iaddr 2 (.t 16) (.t 17), none⟩, 
    ⟨some 19, .load 0 true 2 (.t 18), none⟩, 
    ⟨some 20, .move false (.t 1), none⟩, 
    ⟨some 21, .move false (.t 5), none⟩, 
    ⟨some 22, .iaddr 2 (.t 20) (.t 21), none⟩, 
    ⟨some 23, .load 0 true 2 (.t 22), none⟩, 
    ⟨some 24, .eqs true [.i .i64, .i .i64] (.t 19) (.t 23), none⟩]) (
  .cond (.t 24) (.seq (.region [
    ⟨some 4, .move false (.c (.bool false)), none⟩]) (
  .ret)) (.skip))))) (
  .region [
    ⟨some 25, .bin .add (.t 13) (.c (.int .i64 1)), none⟩, 
    ⟨some 13, .move false (.t 25), none⟩]))))))) (
  .seq (.region [
    ⟨some 4, .move false (.c (.bool true)), none⟩]) (
  .ret))))
def R.slices_Equal_Cell : List ARes := [.t 4]
set_option maxRecDepth 100000 in
theorem K.slices_Equal_Cell : ckFun Try.prog Try.f123 C.slices_Equal_Cell R.slices_Equal_Cell = true := by kernel_rfl
end Go.Proofs.Ytpdajkbfemcdlaa
/- Annotated code of functions, checked against the program. -/
namespace Go.Proofs.Ytpdajkbfemcdlaa
open Go.Ge
/-- gantry/gantmake.Below -/
def C.gantmake_Below : ACode :=
  .seq (.region [
    ⟨some 4, .move false (.c (.int .i64 0)), none⟩]) (
  .seq (.region [
    ⟨some 5, .move false (.t 0), none⟩, 
    ⟨some 6, .move false (.t 1), none⟩, 
    ⟨some 7, .bin .rem (.t 5) (.t 6), none⟩, 
    ⟨some 0, .move false (.t 7), none⟩]) (
  .seq (.seq (.region [
    ⟨some 8, .move false (.t 0), none⟩, 
    ⟨some 9, .bin .lss (.t 8) (.c (.int .i64 0)), none⟩]) (
  .cond (.t 9) (.region [
    ⟨some 10, .move false (.t 0), none⟩, 
    ⟨some 11, .move false (.t 1), none⟩, 
    ⟨some 12, .bin .add (.t 10) (.t 11), none⟩, 
    ⟨some 0, .move false (.t 12), none⟩]) (.skip))) (
  .seq (.region [
    ⟨some 13, .move false (.t 0), none⟩, 
    ⟨some 4, .move false (.t 13), none⟩]) (
  .ret))))
def R.gantmake_Below : List ARes := [.t 4]
set_option maxRecDepth 100000 in
theorem K.gantmake_Below : ckFun Try.prog Try.f42 C.gantmake_Below R.gantmake_Below = true := by kernel_rfl
end Go.Proofs.Ytpdajkbfemcdlaa
/- Contracts: clocks. -/
set_option linter.unusedSimpArgs false
set_option linter.unusedVariables false
set_option maxRecDepth 10000
namespace Go.Proofs.Ytpdajkbfemcdlaa
open Go.Ge
theorem Below_ok (x n : Int) (hx : inI64 x) (hn : 0 < n) (hn2 : n < 9223372036854775808) (h : List HObj) : ACalls Try.prog F.gantmake_Below [.int .i64 x, .int .i64 n] h (fun r h' => r = .int .i64 (x % n) ∧ h' = h) := by
  unfold inI64 at hx
  refine ACalls.of_aw Try.func42 K.gantmake_Below (by simp [Try.f42]) ?_
  generalize hQ : retQ R.gantmake_Below _ = Q
  simp (disch := first | assumption | omega) only [C.gantmake_Below, go_sem, ↓reduceIte, Nat.reduceEqDiff, reduceCtorEq, Nat.reduceAdd, Nat.reduceLeDiff, Nat.reduceLT, wrapU32, reduceIte, Int.natCast_nonneg, Int.ofNat_lt, Int.ofNat_le, cond_true, cond_false]
  refine ⟨by omega, ?_⟩
  have e := Int.tmod_eq_emod (a := x) (b := n)
  have h1 := Int.emod_nonneg x (show n ≠ 0 by omega)
  have h2 := Int.emod_lt_of_pos x hn
  by_cases h0 : 0 ≤ x ∨ n ∣ x
  · rw [if_pos h0] at e
    refine condG_if (fun hlt => by omega) fun hge => ?_
    simp (disch := first | assumption | omega) only [go_sem, ↓reduceIte, Nat.reduceEqDiff, reduceCtorEq, Nat.reduceAdd, Nat.reduceLeDiff, Nat.reduceLT, wrapU32, reduceIte, Int.natCast_nonneg, Int.ofNat_lt, Int.ofNat_le, cond_true, cond_false]
    subst hQ
    simp (disch := first | assumption | omega) only [R.gantmake_Below, go_sem, ↓reduceIte, Nat.reduceEqDiff, reduceCtorEq, Nat.reduceAdd, Nat.reduceLeDiff, Nat.reduceLT, wrapU32, reduceIte, Int.natCast_nonneg, Int.ofNat_lt, Int.ofNat_le, cond_true, cond_false]
    rw [e]; simp
  · rw [if_neg h0] at e
    have : (n.natAbs : Int) = n := by omega
    refine condG_if (fun hlt => ?_) fun hge => ?_
    · simp (disch := first | assumption | omega) only [go_sem, ↓reduceIte, Nat.reduceEqDiff, reduceCtorEq, Nat.reduceAdd, Nat.reduceLeDiff, Nat.reduceLT, wrapU32, reduceIte, Int.natCast_nonneg, Int.ofNat_lt, Int.ofNat_le, cond_true, cond_false]
      subst hQ
      simp (disch := first | assumption | omega) only [R.gantmake_Below, go_sem, ↓reduceIte, Nat.reduceEqDiff, reduceCtorEq, Nat.reduceAdd, Nat.reduceLeDiff, Nat.reduceLT, wrapU32, reduceIte, Int.natCast_nonneg, Int.ofNat_lt, Int.ofNat_le, cond_true, cond_false]
      rw [e]; congr 1; omega
    · exfalso
      have h3 : x % n ≠ 0 := fun h => h0 (.inr (Int.dvd_of_emod_eq_zero h))
      omega
end Go.Proofs.Ytpdajkbfemcdlaa
/- Contracts: messages, the same and copied. -/
set_option linter.unusedSimpArgs false
set_option linter.unusedVariables false
set_option maxRecDepth 10000
namespace Go.Proofs.Ytpdajkbfemcdlaa
open Go.Ge
theorem EqualCell_ok (o1 o2 : Own) (a b : List Cell) (h1 : Rdo o1) (h2 : Rdo o2) (hl : a.length < 4611686018427387904) (hl2 : b.length < 4611686018427387904) (h : List HObj) :
    ACalls Try.prog F.slices_Equal_Cell [.lst o1 (cellsA a), .lst o2 (cellsA b)] h (fun r h' => r = .bool (decide (a = b)) ∧ h' = h) := by
  refine ACalls.of_aw Try.func123 K.slices_Equal_Cell (by simp [Try.f123]) ?_
  generalize hQ : retQ R.slices_Equal_Cell _ = Q
  simp (disch := first | assumption | omega) only [C.slices_Equal_Cell, go_sem, ↓reduceIte, Nat.reduceEqDiff, reduceCtorEq, Nat.reduceAdd, Nat.reduceLeDiff, Nat.reduceLT, wrapU32, reduceIte, Int.natCast_nonneg, Int.ofNat_lt, Int.ofNat_le, cond_true, cond_false, Int.reduceBEq, Int.reduceBNe, Int.reduceLT, Int.reduceLE, Int.reduceAdd, Int.reduceSub, Int.reduceMul, Int.reduceNeg, Int.reduceEq, Int.reduceNe, Nat.reduceMul, Nat.reduceSub, decide_true, decide_false, not_true_eq_false, not_false_eq_true, Bool.true_and, Bool.false_and, Bool.and_false, aggEq, scEq, hasSh, alS, List.filterMap_nil]
  by_cases he : a.length = b.length
  · simp (disch := first | assumption | omega) only [he, go_sem, ↓reduceIte, Nat.reduceEqDiff, reduceCtorEq, Nat.reduceAdd, Nat.reduceLeDiff, Nat.reduceLT, wrapU32, reduceIte, Int.natCast_nonneg, Int.ofNat_lt, Int.ofNat_le, cond_true, cond_false, Int.reduceBEq, Int.reduceBNe, Int.reduceLT, Int.reduceLE, Int.reduceAdd, Int.reduceSub, Int.reduceMul, Int.reduceNeg, Int.reduceEq, Int.reduceNe, Nat.reduceMul, Nat.reduceSub, decide_true, decide_false, not_true_eq_false, not_false_eq_true, Bool.true_and, Bool.false_and, Bool.and_false, aggEq, scEq, hasSh, alS, List.filterMap_nil]
    refine aw_count (fun d S => ∃ (i : Nat), i + d = a.length ∧ S.env 13 = .int .i64 i ∧ S.env 12 = .int .i64 b.length ∧ S.env 0 = .lst o1 (cellsA a) ∧ S.env 1 = .lst o2 (cellsA b) ∧ a.take i = b.take i ∧ S.heap = h) (n := a.length) ⟨0, by simp [go_sem]⟩ ?_
    rintro d S ⟨i, hi, e13, e12, e0, e1, ht, eh⟩
    simp (disch := first | assumption | omega) only [e13, e12, e0, e1, eh, go_sem, ↓reduceIte, Nat.reduceEqDiff, reduceCtorEq, Nat.reduceAdd, Nat.reduceLeDiff, Nat.reduceLT, wrapU32, reduceIte, Int.natCast_nonneg, Int.ofNat_lt, Int.ofNat_le, cond_true, cond_false, Int.reduceBEq, Int.reduceBNe, Int.reduceLT, Int.reduceLE, Int.reduceAdd, Int.reduceSub, Int.reduceMul, Int.reduceNeg, Int.reduceEq, Int.reduceNe, Nat.reduceMul, Nat.reduceSub, decide_true, decide_false, not_true_eq_false, not_false_eq_true, Bool.true_and, Bool.false_and, Bool.and_false, aggEq, scEq, hasSh, alS, List.filterMap_nil]
    refine condG_if (fun hlt => ?_) fun hge => ?_
    · have hlt1 : i < a.length := by omega
      have hlt2 : i < b.length := by omega
      have hat1 := at_cells hlt1
      have hat2 := at_cells hlt2
      simp (disch := first | assumption | omega) only [e13, e12, e0, e1, eh, hat1, hat2, cellA, hlt1, hlt2, go_sem, ↓reduceIte, Nat.reduceEqDiff, reduceCtorEq, Nat.reduceAdd, Nat.reduceLeDiff, Nat.reduceLT, wrapU32, reduceIte, Int.natCast_nonneg, Int.ofNat_lt, Int.ofNat_le, cond_true, cond_false, Int.reduceBEq, Int.reduceBNe, Int.reduceLT, Int.reduceLE, Int.reduceAdd, Int.reduceSub, Int.reduceMul, Int.reduceNeg, Int.reduceEq, Int.reduceNe, Nat.reduceMul, Nat.reduceSub, decide_true, decide_false, not_true_eq_false, not_false_eq_true, Bool.true_and, Bool.false_and, Bool.and_false, aggEq, scEq, hasSh, alS, List.filterMap_nil]
      refine condG_split (fun hb => ?_) fun hb => ?_
      · simp (disch := first | assumption | omega) only [e13, e12, e0, e1, eh, go_sem, ↓reduceIte, Nat.reduceEqDiff, reduceCtorEq, Nat.reduceAdd, Nat.reduceLeDiff, Nat.reduceLT, wrapU32, reduceIte, Int.natCast_nonneg, Int.ofNat_lt, Int.ofNat_le, cond_true, cond_false, Int.reduceBEq, Int.reduceBNe, Int.reduceLT, Int.reduceLE, Int.reduceAdd, Int.reduceSub, Int.reduceMul, Int.reduceNeg, Int.reduceEq, Int.reduceNe, Nat.reduceMul, Nat.reduceSub, decide_true, decide_false, not_true_eq_false, not_false_eq_true, Bool.true_and, Bool.false_and, Bool.and_false, aggEq, scEq, hasSh, alS, List.filterMap_nil]
        subst hQ
        simp (disch := first | assumption | omega) only [R.slices_Equal_Cell, e13, e12, e0, e1, eh, go_sem, ↓reduceIte, Nat.reduceEqDiff, reduceCtorEq, Nat.reduceAdd, Nat.reduceLeDiff, Nat.reduceLT, wrapU32, reduceIte, Int.natCast_nonneg, Int.ofNat_lt, Int.ofNat_le, cond_true, cond_false, Int.reduceBEq, Int.reduceBNe, Int.reduceLT, Int.reduceLE, Int.reduceAdd, Int.reduceSub, Int.reduceMul, Int.reduceNeg, Int.reduceEq, Int.reduceNe, Nat.reduceMul, Nat.reduceSub, decide_true, decide_false, not_true_eq_false, not_false_eq_true, Bool.true_and, Bool.false_and, Bool.and_false, aggEq, scEq, hasSh, alS, List.filterMap_nil]
        have : a ≠ b := by
          rintro rfl
          simp at hb
        simp [this, eh]
      · simp (disch := first | assumption | omega) only [e13, e12, e0, e1, eh, go_sem, ↓reduceIte, Nat.reduceEqDiff, reduceCtorEq, Nat.reduceAdd, Nat.reduceLeDiff, Nat.reduceLT, wrapU32, reduceIte, Int.natCast_nonneg, Int.ofNat_lt, Int.ofNat_le, cond_true, cond_false, Int.reduceBEq, Int.reduceBNe, Int.reduceLT, Int.reduceLE, Int.reduceAdd, Int.reduceSub, Int.reduceMul, Int.reduceNeg, Int.reduceEq, Int.reduceNe, Nat.reduceMul, Nat.reduceSub, decide_true, decide_false, not_true_eq_false, not_false_eq_true, Bool.true_and, Bool.false_and, Bool.and_false, aggEq, scEq, hasSh, alS, List.filterMap_nil]
        refine ⟨d - 1, by omega, i + 1, by omega, by simp, ?_⟩
        rw [List.take_add_one, List.take_add_one, ht, List.getElem?_eq_getElem hlt1, List.getElem?_eq_getElem hlt2]
        have : a[i] = b[i] := by
          simp at hb
          cases h1 : a[i]; cases h2 : b[i]; simp_all
        rw [this]
    · obtain rfl : i = a.length := by omega
      simp (disch := first | assumption | omega) only [e13, e12, e0, e1, eh, go_sem, ↓reduceIte, Nat.reduceEqDiff, reduceCtorEq, Nat.reduceAdd, Nat.reduceLeDiff, Nat.reduceLT, wrapU32, reduceIte, Int.natCast_nonneg, Int.ofNat_lt, Int.ofNat_le, cond_true, cond_false, Int.reduceBEq, Int.reduceBNe, Int.reduceLT, Int.reduceLE, Int.reduceAdd, Int.reduceSub, Int.reduceMul, Int.reduceNeg, Int.reduceEq, Int.reduceNe, Nat.reduceMul, Nat.reduceSub, decide_true, decide_false, not_true_eq_false, not_false_eq_true, Bool.true_and, Bool.false_and, Bool.and_false, aggEq, scEq, hasSh, alS, List.filterMap_nil]
      subst hQ
      simp (disch := first | assumption | omega) only [R.slices_Equal_Cell, go_sem, ↓reduceIte, Nat.reduceEqDiff, reduceCtorEq, Nat.reduceAdd, Nat.reduceLeDiff, Nat.reduceLT, wrapU32, reduceIte, Int.natCast_nonneg, Int.ofNat_lt, Int.ofNat_le, cond_true, cond_false, Int.reduceBEq, Int.reduceBNe, Int.reduceLT, Int.reduceLE, Int.reduceAdd, Int.reduceSub, Int.reduceMul, Int.reduceNeg, Int.reduceEq, Int.reduceNe, Nat.reduceMul, Nat.reduceSub, decide_true, decide_false, not_true_eq_false, not_false_eq_true, Bool.true_and, Bool.false_and, Bool.and_false, aggEq, scEq, hasSh, alS, List.filterMap_nil]
      rw [List.take_length, he, List.take_length] at ht
      simp [ht, eh]
  · have hd : ¬((a.length : Int) = b.length) := by omega
    have hd2 : ((a.length : Int) != b.length) = true := by simpa using hd
    simp (disch := first | assumption | omega) only [hd2, go_sem, ↓reduceIte, Nat.reduceEqDiff, reduceCtorEq, Nat.reduceAdd, Nat.reduceLeDiff, Nat.reduceLT, wrapU32, reduceIte, Int.natCast_nonneg, Int.ofNat_lt, Int.ofNat_le, cond_true, cond_false, Int.reduceBEq, Int.reduceBNe, Int.reduceLT, Int.reduceLE, Int.reduceAdd, Int.reduceSub, Int.reduceMul, Int.reduceNeg, Int.reduceEq, Int.reduceNe, Nat.reduceMul, Nat.reduceSub, decide_true, decide_false, not_true_eq_false, not_false_eq_true, Bool.true_and, Bool.false_and, Bool.and_false, aggEq, scEq, hasSh, alS, List.filterMap_nil]
    subst hQ
    simp (disch := first | assumption | omega) only [R.slices_Equal_Cell, go_sem, ↓reduceIte, Nat.reduceEqDiff, reduceCtorEq, Nat.reduceAdd, Nat.reduceLeDiff, Nat.reduceLT, wrapU32, reduceIte, Int.natCast_nonneg, Int.ofNat_lt, Int.ofNat_le, cond_true, cond_false, Int.reduceBEq, Int.reduceBNe, Int.reduceLT, Int.reduceLE, Int.reduceAdd, Int.reduceSub, Int.reduceMul, Int.reduceNeg, Int.reduceEq, Int.reduceNe, Nat.reduceMul, Nat.reduceSub, decide_true, decide_false, not_true_eq_false, not_false_eq_true, Bool.true_and, Bool.false_and, Bool.and_false, aggEq, scEq, hasSh, alS, List.filterMap_nil]
    have : a ≠ b := by rintro rfl; exact he rfl
    simp [this]
theorem Same_ok (o1 o2 : Own) (a b : Msg) (h1 : Rdo o1) (h2 : Rdo o2) (hl : a.Cells.length < 4611686018427387904) (hl2 : b.Cells.length < 4611686018427387904) (h : List HObj) :
    ACalls Try.prog F.msg_Same [msgA o1 a, msgA o2 b] h (fun r h' => r = .bool (decide (a = b)) ∧ h' = h) := by
  refine ACalls.of_aw Try.func47 K.msg_Same (by simp [Try.f47]) ?_
  generalize hQ : retQ R.msg_Same _ = Q
  simp (disch := first | assumption | omega) only [C.msg_Same, go_sem, ↓reduceIte, Nat.reduceEqDiff, reduceCtorEq, Nat.reduceAdd, Nat.reduceLeDiff, Nat.reduceLT, wrapU32, reduceIte, Int.natCast_nonneg, Int.ofNat_lt, Int.ofNat_le, cond_true, cond_false, Int.reduceBEq, Int.reduceBNe, Int.reduceLT, Int.reduceLE, Int.reduceAdd, Int.reduceSub, Int.reduceMul, Int.reduceNeg, Int.reduceEq, Int.reduceNe, Nat.reduceMul, Nat.reduceSub, decide_true, decide_false, not_true_eq_false, not_false_eq_true, Bool.true_and, Bool.false_and, Bool.and_false, aggEq, scEq, hasSh, alS, List.filterMap_nil]
  simp (disch := first | assumption | omega) only [msgA, msgC, go_sem, ↓reduceIte, Nat.reduceEqDiff, reduceCtorEq, Nat.reduceAdd, Nat.reduceLeDiff, Nat.reduceLT, wrapU32, reduceIte, Int.natCast_nonneg, Int.ofNat_lt, Int.ofNat_le, cond_true, cond_false, Int.reduceBEq, Int.reduceBNe, Int.reduceLT, Int.reduceLE, Int.reduceAdd, Int.reduceSub, Int.reduceMul, Int.reduceNeg, Int.reduceEq, Int.reduceNe, Nat.reduceMul, Nat.reduceSub, decide_true, decide_false, not_true_eq_false, not_false_eq_true, Bool.true_and, Bool.false_and, Bool.and_false, aggEq, scEq, hasSh, alS, List.filterMap_nil]
  refine aopsG_split (fun hb1 => ?_) (fun hb1 => ?_)
  rotate_left
  · simp (disch := first | assumption | omega) only [hb1, go_sem, ↓reduceIte, Nat.reduceEqDiff, reduceCtorEq, Nat.reduceAdd, Nat.reduceLeDiff, Nat.reduceLT, wrapU32, reduceIte, Int.natCast_nonneg, Int.ofNat_lt, Int.ofNat_le, cond_true, cond_false, Int.reduceBEq, Int.reduceBNe, Int.reduceLT, Int.reduceLE, Int.reduceAdd, Int.reduceSub, Int.reduceMul, Int.reduceNeg, Int.reduceEq, Int.reduceNe, Nat.reduceMul, Nat.reduceSub, decide_true, decide_false, not_true_eq_false, not_false_eq_true, Bool.true_and, Bool.false_and, Bool.and_false, aggEq, scEq, hasSh, alS, List.filterMap_nil]
    subst hQ
    simp (disch := first | assumption | omega) only [R.msg_Same, go_sem, ↓reduceIte, Nat.reduceEqDiff, reduceCtorEq, Nat.reduceAdd, Nat.reduceLeDiff, Nat.reduceLT, wrapU32, reduceIte, Int.natCast_nonneg, Int.ofNat_lt, Int.ofNat_le, cond_true, cond_false, Int.reduceBEq, Int.reduceBNe, Int.reduceLT, Int.reduceLE, Int.reduceAdd, Int.reduceSub, Int.reduceMul, Int.reduceNeg, Int.reduceEq, Int.reduceNe, Nat.reduceMul, Nat.reduceSub, decide_true, decide_false, not_true_eq_false, not_false_eq_true, Bool.true_and, Bool.false_and, Bool.and_false, aggEq, scEq, hasSh, alS, List.filterMap_nil]
    have : a ≠ b := by rintro rfl; simp at hb1
    simp [this]
  simp (disch := first | assumption | omega) only [hb1, go_sem, ↓reduceIte, Nat.reduceEqDiff, reduceCtorEq, Nat.reduceAdd, Nat.reduceLeDiff, Nat.reduceLT, wrapU32, reduceIte, Int.natCast_nonneg, Int.ofNat_lt, Int.ofNat_le, cond_true, cond_false, Int.reduceBEq, Int.reduceBNe, Int.reduceLT, Int.reduceLE, Int.reduceAdd, Int.reduceSub, Int.reduceMul, Int.reduceNeg, Int.reduceEq, Int.reduceNe, Nat.reduceMul, Nat.reduceSub, decide_true, decide_false, not_true_eq_false, not_false_eq_true, Bool.true_and, Bool.false_and, Bool.and_false, aggEq, scEq, hasSh, alS, List.filterMap_nil]
  refine aopsG_split (fun hb2 => ?_) (fun hb2 => ?_)
  rotate_left
  · simp (disch := first | assumption | omega) only [hb1, hb2, go_sem, ↓reduceIte, Nat.reduceEqDiff, reduceCtorEq, Nat.reduceAdd, Nat.reduceLeDiff, Nat.reduceLT, wrapU32, reduceIte, Int.natCast_nonneg, Int.ofNat_lt, Int.ofNat_le, cond_true, cond_false, Int.reduceBEq, Int.reduceBNe, Int.reduceLT, Int.reduceLE, Int.reduceAdd, Int.reduceSub, Int.reduceMul, Int.reduceNeg, Int.reduceEq, Int.reduceNe, Nat.reduceMul, Nat.reduceSub, decide_true, decide_false, not_true_eq_false, not_false_eq_true, Bool.true_and, Bool.false_and, Bool.and_false, aggEq, scEq, hasSh, alS, List.filterMap_nil]
    subst hQ
    simp (disch := first | assumption | omega) only [R.msg_Same, go_sem, ↓reduceIte, Nat.reduceEqDiff, reduceCtorEq, Nat.reduceAdd, Nat.reduceLeDiff, Nat.reduceLT, wrapU32, reduceIte, Int.natCast_nonneg, Int.ofNat_lt, Int.ofNat_le, cond_true, cond_false, Int.reduceBEq, Int.reduceBNe, Int.reduceLT, Int.reduceLE, Int.reduceAdd, Int.reduceSub, Int.reduceMul, Int.reduceNeg, Int.reduceEq, Int.reduceNe, Nat.reduceMul, Nat.reduceSub, decide_true, decide_false, not_true_eq_false, not_false_eq_true, Bool.true_and, Bool.false_and, Bool.and_false, aggEq, scEq, hasSh, alS, List.filterMap_nil]
    have : a ≠ b := by rintro rfl; simp at hb2
    simp [this]
  simp (disch := first | assumption | omega) only [hb1, hb2, go_sem, ↓reduceIte, Nat.reduceEqDiff, reduceCtorEq, Nat.reduceAdd, Nat.reduceLeDiff, Nat.reduceLT, wrapU32, reduceIte, Int.natCast_nonneg, Int.ofNat_lt, Int.ofNat_le, cond_true, cond_false, Int.reduceBEq, Int.reduceBNe, Int.reduceLT, Int.reduceLE, Int.reduceAdd, Int.reduceSub, Int.reduceMul, Int.reduceNeg, Int.reduceEq, Int.reduceNe, Nat.reduceMul, Nat.reduceSub, decide_true, decide_false, not_true_eq_false, not_false_eq_true, Bool.true_and, Bool.false_and, Bool.and_false, aggEq, scEq, hasSh, alS, List.filterMap_nil]
  refine aopsG_split (fun hb3 => ?_) (fun hb3 => ?_)
  rotate_left
  · simp (disch := first | assumption | omega) only [hb1, hb2, hb3, go_sem, ↓reduceIte, Nat.reduceEqDiff, reduceCtorEq, Nat.reduceAdd, Nat.reduceLeDiff, Nat.reduceLT, wrapU32, reduceIte, Int.natCast_nonneg, Int.ofNat_lt, Int.ofNat_le, cond_true, cond_false, Int.reduceBEq, Int.reduceBNe, Int.reduceLT, Int.reduceLE, Int.reduceAdd, Int.reduceSub, Int.reduceMul, Int.reduceNeg, Int.reduceEq, Int.reduceNe, Nat.reduceMul, Nat.reduceSub, decide_true, decide_false, not_true_eq_false, not_false_eq_true, Bool.true_and, Bool.false_and, Bool.and_false, aggEq, scEq, hasSh, alS, List.filterMap_nil]
    subst hQ
    simp (disch := first | assumption | omega) only [R.msg_Same, go_sem, ↓reduceIte, Nat.reduceEqDiff, reduceCtorEq, Nat.reduceAdd, Nat.reduceLeDiff, Nat.reduceLT, wrapU32, reduceIte, Int.natCast_nonneg, Int.ofNat_lt, Int.ofNat_le, cond_true, cond_false, Int.reduceBEq, Int.reduceBNe, Int.reduceLT, Int.reduceLE, Int.reduceAdd, Int.reduceSub, Int.reduceMul, Int.reduceNeg, Int.reduceEq, Int.reduceNe, Nat.reduceMul, Nat.reduceSub, decide_true, decide_false, not_true_eq_false, not_false_eq_true, Bool.true_and, Bool.false_and, Bool.and_false, aggEq, scEq, hasSh, alS, List.filterMap_nil]
    have : a ≠ b := by rintro rfl; simp at hb3
    simp [this]
  simp (disch := first | assumption | omega) only [hb1, hb2, hb3, go_sem, ↓reduceIte, Nat.reduceEqDiff, reduceCtorEq, Nat.reduceAdd, Nat.reduceLeDiff, Nat.reduceLT, wrapU32, reduceIte, Int.natCast_nonneg, Int.ofNat_lt, Int.ofNat_le, cond_true, cond_false, Int.reduceBEq, Int.reduceBNe, Int.reduceLT, Int.reduceLE, Int.reduceAdd, Int.reduceSub, Int.reduceMul, Int.reduceNeg, Int.reduceEq, Int.reduceNe, Nat.reduceMul, Nat.reduceSub, decide_true, decide_false, not_true_eq_false, not_false_eq_true, Bool.true_and, Bool.false_and, Bool.and_false, aggEq, scEq, hasSh, alS, List.filterMap_nil]
  refine aopsG_split (fun hb4 => ?_) (fun hb4 => ?_)
  rotate_left
  · simp (disch := first | assumption | omega) only [hb1, hb2, hb3, hb4, go_sem, ↓reduceIte, Nat.reduceEqDiff, reduceCtorEq, Nat.reduceAdd, Nat.reduceLeDiff, Nat.reduceLT, wrapU32, reduceIte, Int.natCast_nonneg, Int.ofNat_lt, Int.ofNat_le, cond_true, cond_false, Int.reduceBEq, Int.reduceBNe, Int.reduceLT, Int.reduceLE, Int.reduceAdd, Int.reduceSub, Int.reduceMul, Int.reduceNeg, Int.reduceEq, Int.reduceNe, Nat.reduceMul, Nat.reduceSub, decide_true, decide_false, not_true_eq_false, not_false_eq_true, Bool.true_and, Bool.false_and, Bool.and_false, aggEq, scEq, hasSh, alS, List.filterMap_nil]
    subst hQ
    simp (disch := first | assumption | omega) only [R.msg_Same, go_sem, ↓reduceIte, Nat.reduceEqDiff, reduceCtorEq, Nat.reduceAdd, Nat.reduceLeDiff, Nat.reduceLT, wrapU32, reduceIte, Int.natCast_nonneg, Int.ofNat_lt, Int.ofNat_le, cond_true, cond_false, Int.reduceBEq, Int.reduceBNe, Int.reduceLT, Int.reduceLE, Int.reduceAdd, Int.reduceSub, Int.reduceMul, Int.reduceNeg, Int.reduceEq, Int.reduceNe, Nat.reduceMul, Nat.reduceSub, decide_true, decide_false, not_true_eq_false, not_false_eq_true, Bool.true_and, Bool.false_and, Bool.and_false, aggEq, scEq, hasSh, alS, List.filterMap_nil]
    have : a ≠ b := by rintro rfl; simp at hb4
    simp [this]
  simp (disch := first | assumption | omega) only [hb1, hb2, hb3, hb4, go_sem, ↓reduceIte, Nat.reduceEqDiff, reduceCtorEq, Nat.reduceAdd, Nat.reduceLeDiff, Nat.reduceLT, wrapU32, reduceIte, Int.natCast_nonneg, Int.ofNat_lt, Int.ofNat_le, cond_true, cond_false, Int.reduceBEq, Int.reduceBNe, Int.reduceLT, Int.reduceLE, Int.reduceAdd, Int.reduceSub, Int.reduceMul, Int.reduceNeg, Int.reduceEq, Int.reduceNe, Nat.reduceMul, Nat.reduceSub, decide_true, decide_false, not_true_eq_false, not_false_eq_true, Bool.true_and, Bool.false_and, Bool.and_false, aggEq, scEq, hasSh, alS, List.filterMap_nil]
  refine aopsG_split (fun hb5 => ?_) (fun hb5 => ?_)
  rotate_left
  · simp (disch := first | assumption | omega) only [hb1, hb2, hb3, hb4, hb5, go_sem, ↓reduceIte, Nat.reduceEqDiff, reduceCtorEq, Nat.reduceAdd, Nat.reduceLeDiff, Nat.reduceLT, wrapU32, reduceIte, Int.natCast_nonneg, Int.ofNat_lt, Int.ofNat_le, cond_true, cond_false, Int.reduceBEq, Int.reduceBNe, Int.reduceLT, Int.reduceLE, Int.reduceAdd, Int.reduceSub, Int.reduceMul, Int.reduceNeg, Int.reduceEq, Int.reduceNe, Nat.reduceMul, Nat.reduceSub, decide_true, decide_false, not_true_eq_false, not_false_eq_true, Bool.true_and, Bool.false_and, Bool.and_false, aggEq, scEq, hasSh, alS, List.filterMap_nil]
    subst hQ
    simp (disch := first | assumption | omega) only [R.msg_Same, go_sem, ↓reduceIte, Nat.reduceEqDiff, reduceCtorEq, Nat.reduceAdd, Nat.reduceLeDiff, Nat.reduceLT, wrapU32, reduceIte, Int.natCast_nonneg, Int.ofNat_lt, Int.ofNat_le, cond_true, cond_false, Int.reduceBEq, Int.reduceBNe, Int.reduceLT, Int.reduceLE, Int.reduceAdd, Int.reduceSub, Int.reduceMul, Int.reduceNeg, Int.reduceEq, Int.reduceNe, Nat.reduceMul, Nat.reduceSub, decide_true, decide_false, not_true_eq_false, not_false_eq_true, Bool.true_and, Bool.false_and, Bool.and_false, aggEq, scEq, hasSh, alS, List.filterMap_nil]
    have : a ≠ b := by rintro rfl; simp at hb5
    simp [this]
  simp (disch := first | assumption | omega) only [hb1, hb2, hb3, hb4, hb5, go_sem, ↓reduceIte, Nat.reduceEqDiff, reduceCtorEq, Nat.reduceAdd, Nat.reduceLeDiff, Nat.reduceLT, wrapU32, reduceIte, Int.natCast_nonneg, Int.ofNat_lt, Int.ofNat_le, cond_true, cond_false, Int.reduceBEq, Int.reduceBNe, Int.reduceLT, Int.reduceLE, Int.reduceAdd, Int.reduceSub, Int.reduceMul, Int.reduceNeg, Int.reduceEq, Int.reduceNe, Nat.reduceMul, Nat.reduceSub, decide_true, decide_false, not_true_eq_false, not_false_eq_true, Bool.true_and, Bool.false_and, Bool.and_false, aggEq, scEq, hasSh, alS, List.filterMap_nil]
  refine callG_ok (EqualCell_ok o1 o2 a.Cells b.Cells h1 h2 hl hl2 _) (by simp (disch := first | assumption | omega) only [go_sem, ↓reduceIte, Nat.reduceEqDiff, reduceCtorEq, Nat.reduceAdd, Nat.reduceLeDiff, Nat.reduceLT, wrapU32, reduceIte, Int.natCast_nonneg, Int.ofNat_lt, Int.ofNat_le, cond_true, cond_false, Int.reduceBEq, Int.reduceBNe, Int.reduceLT, Int.reduceLE, Int.reduceAdd, Int.reduceSub, Int.reduceMul, Int.reduceNeg, Int.reduceEq, Int.reduceNe, Nat.reduceMul, Nat.reduceSub, decide_true, decide_false, not_true_eq_false, not_false_eq_true, Bool.true_and, Bool.false_and, Bool.and_false, aggEq, scEq, hasSh, alS, List.filterMap_nil]) ?_
  rintro _ _ ⟨rfl, hhh⟩
  try rw [hhh]
  clear hhh
  simp (disch := first | assumption | omega) only [go_sem, ↓reduceIte, Nat.reduceEqDiff, reduceCtorEq, Nat.reduceAdd, Nat.reduceLeDiff, Nat.reduceLT, wrapU32, reduceIte, Int.natCast_nonneg, Int.ofNat_lt, Int.ofNat_le, cond_true, cond_false, Int.reduceBEq, Int.reduceBNe, Int.reduceLT, Int.reduceLE, Int.reduceAdd, Int.reduceSub, Int.reduceMul, Int.reduceNeg, Int.reduceEq, Int.reduceNe, Nat.reduceMul, Nat.reduceSub, decide_true, decide_false, not_true_eq_false, not_false_eq_true, Bool.true_and, Bool.false_and, Bool.and_false, aggEq, scEq, hasSh, alS, List.filterMap_nil]
  subst hQ
  simp (disch := first | assumption | omega) only [R.msg_Same, go_sem, ↓reduceIte, Nat.reduceEqDiff, reduceCtorEq, Nat.reduceAdd, Nat.reduceLeDiff, Nat.reduceLT, wrapU32, reduceIte, Int.natCast_nonneg, Int.ofNat_lt, Int.ofNat_le, cond_true, cond_false, Int.reduceBEq, Int.reduceBNe, Int.reduceLT, Int.reduceLE, Int.reduceAdd, Int.reduceSub, Int.reduceMul, Int.reduceNeg, Int.reduceEq, Int.reduceNe, Nat.reduceMul, Nat.reduceSub, decide_true, decide_false, not_true_eq_false, not_false_eq_true, Bool.true_and, Bool.false_and, Bool.and_false, aggEq, scEq, hasSh, alS, List.filterMap_nil]
  have : decide (a.Cells = b.Cells) = decide (a = b) := by
    cases a; cases b; simp at hb1 hb2 hb3 hb4 hb5; simp_all
  rw [this]
end Go.Proofs.Ytpdajkbfemcdlaa
/- Annotated code of functions, checked against the program. -/
namespace Go.Proofs.Ytpdajkbfemcdlaa
open Go.Ge
/-- slices.insertionSortCmpFunc[gantry/api.Cell] -/
def C.slices_insertionSortCmpFunc_Cell : ACode :=
  .seq (.region [
    ⟨some 10, .move false (.t 1), none⟩, 
    ⟨some 11, .bin .add (.t 10) (.c (.int .i64 1)), none⟩, 
    ⟨some 8, .move false (.t 11), none⟩]) (
  .block 0 (.loop (.seq (.seq (.region [
    ⟨some 12, .move false (.t 8), none⟩, 
    ⟨some 13, .move false (.t 2), none⟩, 
    ⟨some 14, .bin .lss (.t 12) (.t 13), none⟩]) (
  .cond (.t 14) (.skip) (.exit 0))) (
  .seq (.block 1 (.seq (.region [
    ⟨some 17, .move false (.t 8), none⟩, 
    ⟨some 9, .move false (.t 17), none⟩]) (
  .block 2 (.loop (.seq (.seq (.drawn [0, 1, 2, 3, 4, 5, 6, 7, 8, 9, 10, 11, 12, 13, 14, 15, 16] [0, 0, 3, 7, 15, 15, 15, 111, 239, 15, 15, 1039, 3599, 7695, 16383, 32767, 65535] [
    ⟨some 18, .move false (.t 9), none⟩, 
    ⟨some 19, .move false (.t 1), none⟩, 
    ⟨some 20, .bin .gtr (.t 18) (.t 19), none⟩, 
    ⟨some 21, .move false (.t 20), none⟩, 
    ⟨some 22, .move false (.t 3), (some (21, true))⟩, 
    ⟨some 23, .move false (.t 0), (some (21, true))⟩, 
    ⟨some 24, .move false (.t 9), (some (21, true))⟩, 
    ⟨some 25, .iaddr 2 (.t 23) (.t 24), (some (21, true))⟩, 
    ⟨some 26, .load 2 true 2 (.t 25), (some (21, true))⟩, 
    ⟨some 27, .move false (.t 0), (some (21, true))⟩, 
    ⟨some 28, .move false (.t 9), (some (21, true))⟩, 
    ⟨some 29, .bin .sub (.t 28) (.c (.int .i64 1)), (some (21, true))⟩, 
    ⟨some 30, .iaddr 2 (.t 27) (.t 29), (some (21, true))⟩, 
    ⟨some 31, .load 2 true 2 (.t 30), (some (21, true))⟩, 
    ⟨some 32, .hop (.callvq (.t 22) [(.t 26), (.t 31)]), (some (21, true))⟩, 
    ⟨some 33, .bin .lss (.t 32) (.c (.int .i64 0)), (some (21, true))⟩, 
    ⟨some 34, .pick (.t 21) (.t 33) (.c (.bool false)), none⟩]) (
  .cond (.t 34) (.skip) (.exit 2))) (
  .seq (.block 3 (.drawn [0, 1, 2, 3, 4, 5, 6, 7, 8, 9, 10, 11, 12, 13, 14, 15, 16, 17] [0, 0, 0, 0, 8, 0, 0, 64, 224, 480, 0, 0, 3072, 7168, 16355, 32739, 65535, 131071] [
    ⟨some 37, .move false (.t 0), none⟩, 
    ⟨some 38, .move false (.t 9), none⟩, 
    ⟨some 39, .move false (.t 0), none⟩, 
    ⟨some 40, .move false (.t 9), none⟩, 
    ⟨some 41, .bin .sub (.t 40) (.c (.int .i64 1)), none⟩, 
    ⟨some 42, .move false (.t 0), none⟩, 
    ⟨some 43, .move false (.t 9), none⟩, 
    ⟨some 44, .bin .sub (.t 43) (.c (.int .i64 1)), none⟩, 
    ⟨some 45, .iaddr 2 (.t 42) (.t 44), none⟩, 
    ⟨some 46, .load 2 true 2 (.t 45), none⟩, 
    ⟨some 47, .move false (.t 0), none⟩, 
    ⟨some 48, .move false (.t 9), none⟩, 
    ⟨some 49, .iaddr 2 (.t 47) (.t 48), none⟩, 
    ⟨some 50, .load 2 true 2 (.t 49), none⟩, 
    ⟨some 51, .iaddr 2 (.t 37) (.t 38), none⟩, 
    ⟨none, .store 2 (.t 51) (.t 46), none⟩, 
    ⟨some 52, .iaddr 2 (.t 39) (.t 41), none⟩, 
    ⟨none, .store 2 (.t 52) (.t 50), none⟩])) (
  .region [
    ⟨some 35, .move false (.t 9), none⟩, 
    ⟨some 36, .bin .sub (.t 35) (.c (.int .i64 1)), none⟩, 
    ⟨some 9, .move false (.t 36), none⟩]))))))) (
  .region [
    ⟨some 15, .move false (.t 8), none⟩, 
    ⟨some 16, .bin .add (.t 15) (.c (.int .i64 1)), none⟩, 
    ⟨some 8, .move false (.t 16), none⟩])))))
def R.slices_insertionSortCmpFunc_Cell : List ARes := []
set_option maxRecDepth 100000 in
theorem K.slices_insertionSortCmpFunc_Cell : ckFun Try.prog Try.f219 C.slices_insertionSortCmpFunc_Cell R.slices_insertionSortCmpFunc_Cell = true := by kernel_rfl
/-- slices.pdqsortCmpFunc[gantry/api.Cell] -/
def C.slices_pdqsortCmpFunc_Cell : ACode :=
  .seq (.region [
    ⟨some 10, .move false (.c (.bool true)), none⟩]) (
  .seq (.region [
    ⟨some 11, .move false (.c (.bool true)), none⟩]) (
  .block 0 (.loop (.block 1 (.seq (.region [
    ⟨some 21, .move false (.t 2), none⟩, 
    ⟨some 22, .move false (.t 1), none⟩, 
    ⟨some 23, .bin .sub (.t 21) (.t 22), none⟩, 
    ⟨some 12, .move false (.t 23), none⟩]) (
  .seq (.seq (.region [
    ⟨some 24, .move false (.t 12), none⟩, 
    ⟨some 25, .bin .leq (.t 24) (.c (.int .i64 12)), none⟩]) (
  .cond (.t 25) (.seq (.region [
    ⟨some 26, .move false (.t 0), none⟩, 
    ⟨some 27, .move false (.t 1), none⟩, 
    ⟨some 28, .move false (.t 2), none⟩, 
    ⟨some 29, .move false (.t 4), none⟩, 
    ⟨some 30, .call true F.slices_insertionSortCmpFunc_Cell [(.t 26), (.t 27), (.t 28), (.t 29)], none⟩]) (
  .ret)) (.skip))) (
  .seq (.seq (.halt) (
  .halt)) (
  .seq (.seq (.halt) (
  .halt)) (
  .seq (.halt) (
  .seq (.seq (.halt) (
  .halt)) (
  .seq (.seq (.halt) (
  .halt)) (
  .seq (.seq (.halt) (
  .halt)) (
  .seq (.halt) (
  .seq (.halt) (
  .seq (.halt) (
  .seq (.halt) (
  .seq (.halt) (
  .halt))))))))))))))))))
def R.slices_pdqsortCmpFunc_Cell : List ARes := []
set_option maxRecDepth 100000 in
theorem K.slices_pdqsortCmpFunc_Cell : ckFun Try.prog Try.f203 C.slices_pdqsortCmpFunc_Cell R.slices_pdqsortCmpFunc_Cell = true := by kernel_rfl
/-- slices.SortFunc[[]gantry/api.Cell,gantry/api.Cell] -/
def C.slices_SortFunc_Cell : ACode :=
  .seq (.region [
    ⟨some 5, .move false (.t 0), none⟩, 
    ⟨some 6, .len (.t 5), none⟩, 
    ⟨some 4, .move false (.t 6), none⟩]) (
  .region [
    ⟨some 7, .move false (.t 0), none⟩, 
    ⟨some 8, .move false (.t 4), none⟩, 
    ⟨some 9, .move false (.t 4), none⟩, 
    ⟨some 10, .conv .u64 (.t 9), none⟩, 
    ⟨some 11, .call true F.bits_Len [(.t 10)], none⟩, 
    ⟨some 12, .move false (.t 1), none⟩, 
    ⟨some 13, .call true F.slices_pdqsortCmpFunc_Cell [(.t 7), (.c (.int .i64 0)), (.t 8), (.t 11), (.t 12)], none⟩])
def R.slices_SortFunc_Cell : List ARes := []
set_option maxRecDepth 100000 in
theorem K.slices_SortFunc_Cell : ckFun Try.prog Try.f180 C.slices_SortFunc_Cell R.slices_SortFunc_Cell = true := by kernel_rfl
/-- math/bits.Len -/
def C.bits_Len : ACode :=
  .seq (.region [
    ⟨some 2, .move false (.c (.int .i64 0)), none⟩]) (
  .seq (.cond (.c (.bool false)) (.seq (.region [
    ⟨some 3, .move false (.t 0), none⟩, 
    ⟨some 4, .conv .u32 (.t 3), none⟩, 
    ⟨some 5, .call true F.bits_Len32 [(.t 4)], none⟩, 
    ⟨some 2, .move false (.t 5), none⟩]) (
  .ret)) (.skip)) (
  .seq (.region [
    ⟨some 6, .move false (.t 0), none⟩, 
    ⟨some 7, .call true F.bits_Len64 [(.t 6)], none⟩, 
    ⟨some 2, .move false (.t 7), none⟩]) (
  .ret)))
def R.bits_Len : List ARes := [.t 2]
set_option maxRecDepth 100000 in
theorem K.bits_Len : ckFun Try.prog Try.f204 C.bits_Len R.bits_Len = true := by kernel_rfl
/-- math/bits.Len64 -/
def C.bits_Len64 : ACode :=
  .seq (.region [
    ⟨some 2, .move false (.c (.int .i64 0)), none⟩]) (
  .seq (.seq (.region [
    ⟨some 3, .move false (.t 0), none⟩, 
    ⟨some 4, .bin .geq (.t 3) (.c (.int .u64 4294967296)), none⟩]) (
  .cond (.t 4) (.seq (.region [
    ⟨some 5, .move false (.t 0), none⟩, 
    ⟨some 6, .bin .shr (.t 5) (.c (.int .u64 32)), none⟩, 
    ⟨some 0, .move false (.t 6), none⟩]) (
  .region [
    ⟨some 2, .move false (.c (.int .i64 32)), none⟩])) (.skip))) (
  .seq (.seq (.region [
    ⟨some 7, .move false (.t 0), none⟩, 
    ⟨some 8, .bin .geq (.t 7) (.c (.int .u64 65536)), none⟩]) (
  .cond (.t 8) (.seq (.region [
    ⟨some 9, .move false (.t 0), none⟩, 
    ⟨some 10, .bin .shr (.t 9) (.c (.int .u64 16)), none⟩, 
    ⟨some 0, .move false (.t 10), none⟩]) (
  .region [
    ⟨some 11, .move false (.t 2), none⟩, 
    ⟨some 12, .bin .add (.t 11) (.c (.int .i64 16)), none⟩, 
    ⟨some 2, .move false (.t 12), none⟩])) (.skip))) (
  .seq (.seq (.region [
    ⟨some 13, .move false (.t 0), none⟩, 
    ⟨some 14, .bin .geq (.t 13) (.c (.int .u64 256)), none⟩]) (
  .cond (.t 14) (.seq (.region [
    ⟨some 15, .move false (.t 0), none⟩, 
    ⟨some 16, .bin .shr (.t 15) (.c (.int .u64 8)), none⟩, 
    ⟨some 0, .move false (.t 16), none⟩]) (
  .region [
    ⟨some 17, .move false (.t 2), none⟩, 
    ⟨some 18, .bin .add (.t 17) (.c (.int .i64 8)), none⟩, 
    ⟨some 2, .move false (.t 18), none⟩])) (.skip))) (
  .seq (.region [
    ⟨some 19, .move false (.t 2), none⟩, 
    ⟨some 20, .move false (.t 0), none⟩, 
    ⟨some 21, .conv .u8 (.t 20), none⟩, 
    ⟨some 22, .idx (.c (.str ⟨#[0, 1, 2, 2, 3, 3, 3, 3, 4, 4, 4, 4, 4, 4, 4, 4, 5, 5, 5, 5, 5, 5, 5, 5, 5, 5, 5, 5, 5, 5, 5, 5, 6, 6, 6, 6, 6, 6, 6, 6, 6, 6, 6, 6, 6, 6, 6, 6, 6, 6, 6, 6, 6, 6, 6, 6, 6, 6, 6, 6, 6, 6, 6, 6, 7, 7, 7, 7, 7, 7, 7, 7, 7, 7, 7, 7, 7, 7, 7, 7, 7, 7, 7, 7, 7, 7, 7, 7, 7, 7, 7, 7, 7, 7, 7, 7, 7, 7, 7, 7, 7, 7, 7, 7, 7, 7, 7, 7, 7, 7, 7, 7, 7, 7, 7, 7, 7, 7, 7, 7, 7, 7, 7, 7, 7, 7, 7, 7, 8, 8, 8, 8, 8, 8, 8, 8, 8, 8, 8, 8, 8, 8, 8, 8, 8, 8, 8, 8, 8, 8, 8, 8, 8, 8, 8, 8, 8, 8, 8, 8, 8, 8, 8, 8, 8, 8, 8, 8, 8, 8, 8, 8, 8, 8, 8, 8, 8, 8, 8, 8, 8, 8, 8, 8, 8, 8, 8, 8, 8, 8, 8, 8, 8, 8, 8, 8, 8, 8, 8, 8, 8, 8, 8, 8, 8, 8, 8, 8, 8, 8, 8, 8, 8, 8, 8, 8, 8, 8, 8, 8, 8, 8, 8, 8, 8, 8, 8, 8, 8, 8, 8, 8, 8, 8, 8, 8, 8, 8, 8, 8, 8, 8, 8, 8, 8, 8, 8, 8, 8, 8, 8, 8, 8, 8, 8, 8]⟩)) (.t 21), none⟩, 
    ⟨some 23, .conv .i64 (.t 22), none⟩, 
    ⟨some 24, .bin .add (.t 19) (.t 23), none⟩, 
    ⟨some 2, .move false (.t 24), none⟩]) (
  .ret)))))
def R.bits_Len64 : List ARes := [.t 2]
set_option maxRecDepth 100000 in
theorem K.bits_Len64 : ckFun Try.prog Try.f228 C.bits_Len64 R.bits_Len64 = true := by kernel_rfl
/-- gantry/gantmake.Cells -/
def C.gantmake_Cells : ACode :=
  .seq (.region [
    ⟨some 2, .move false (.c (.lst .nil [])), none⟩]) (
  .seq (.region [
    ⟨some 6, .move false (.t 0), none⟩, 
    ⟨some 7, .build [(.lst .nil [])] [(0, 1, (.t 6))], none⟩, 
    ⟨some 8, .bx true (.t 7), none⟩, 
    ⟨some 3, .move false (.t 8), none⟩]) (
  .seq (.prom 8 (.region [
    ⟨some 4, .move false (.c (.lst .nil [])), none⟩])) (
  .seq (.seq (.region [
    ⟨some 9, .move false (.t 3), none⟩, 
    ⟨some 10, .call true F.gantmake_Stream_Next [(.t 9), (.c (.int .i64 9))], none⟩, 
    ⟨some 11, .move false (.c (.int .i64 0)), none⟩]) (
  .block 0 (.loop (.seq (.region [
    ⟨some 12, .bin .lss (.t 11) (.t 10), none⟩]) (
  .seq (.cond (.t 12) (.skip) (.exit 0)) (
  .seq (.block 1 (.seq (.region [
    ⟨some 13, .move false (.t 3), none⟩, 
    ⟨some 14, .call true F.gantmake_Stream_Next [(.t 13), (.c (.int .i64 8))], none⟩, 
    ⟨some 15, .bin .sub (.t 14) (.c (.int .i64 4)), none⟩, 
    ⟨some 16, .move false (.t 3), none⟩, 
    ⟨some 17, .call true F.gantmake_Stream_Next [(.t 16), (.c (.int .i64 8))], none⟩, 
    ⟨some 18, .bin .sub (.t 17) (.c (.int .i64 4)), none⟩, 
    ⟨some 19, .build [(.int .i64 0), (.int .i64 0)] [(0, 1, (.t 15)), (1, 1, (.t 18))], none⟩, 
    ⟨some 5, .alloc false [(.int .i64 0), (.int .i64 0)], none⟩, 
    ⟨none, .store 2 (.t 5) (.t 19), none⟩]) (
  .seq (.thaw 4 (.region [
    ⟨some 20, .move false (.t 4), none⟩, 
    ⟨some 21, .load 2 true 2 (.t 5), none⟩, 
    ⟨some 22, .call true F.slices_Contains_Cell [(.t 20), (.t 21)], none⟩, 
    ⟨some 23, .un .not (.t 22), none⟩])) (
  .cond (.t 23) (.region [
    ⟨some 24, .move true (.t 4), none⟩, 
    ⟨some 25, .load 2 true 2 (.t 5), none⟩, 
    ⟨some 26, .buildS false 2 [(.t 25)], none⟩, 
    ⟨some 27, .hop (.appendR 2 16 (.t 24) (.t 26)), none⟩, 
    ⟨some 4, .move false (.t 27), none⟩]) (.skip))))) (
  .own 4 true 2 (.region [
    ⟨some 28, .bin .add (.t 11) (.c (.int .i64 1)), none⟩, 
    ⟨some 11, .move false (.t 28), none⟩])))))))) (
  .seq (.thaw 4 (.region [
    ⟨some 29, .move false (.t 4), none⟩, 
    ⟨some 30, .call true F.slices_SortFunc_Cell [(.t 29), (.c (.func 181 []))], none⟩])) (
  .seq (.own 4 true 2 (.grab 4 (.region [
    ⟨some 31, .move true (.t 4), none⟩, 
    ⟨some 2, .move true (.t 31), none⟩]))) (
  .ret))))))
def R.gantmake_Cells : List ARes := [.t 2]
set_option maxRecDepth 100000 in
theorem K.gantmake_Cells : ckFun Try.prog Try.f111 C.gantmake_Cells R.gantmake_Cells = true := by kernel_rfl
/-- gantry/gantmake.Cells$1 -/
def C.gantmake_Cells_1 : ACode :=
  .seq (.region [
    ⟨some 2, .bx false (.t 0), none⟩, 
    ⟨some 3, .bx false (.t 1), none⟩, 
    ⟨some 4, .move false (.c (.int .i64 0)), none⟩]) (
  .seq (.seq (.region [
    ⟨some 5, .faddr 1 (.t 2), none⟩, 
    ⟨some 6, .load 2 false 1 (.t 5), none⟩, 
    ⟨some 7, .faddr 1 (.t 3), none⟩, 
    ⟨some 8, .load 2 false 1 (.t 7), none⟩, 
    ⟨some 9, .bin .neq (.t 6) (.t 8), none⟩]) (
  .cond (.t 9) (.seq (.region [
    ⟨some 10, .faddr 1 (.t 2), none⟩, 
    ⟨some 11, .load 2 false 1 (.t 10), none⟩, 
    ⟨some 12, .faddr 1 (.t 3), none⟩, 
    ⟨some 13, .load 2 false 1 (.t 12), none⟩, 
    ⟨some 14, .bin .sub (.t 11) (.t 13), none⟩, 
    ⟨some 4, .move false (.t 14), none⟩]) (
  .ret)) (.skip))) (
  .seq (.region [
    ⟨some 15, .faddr 0 (.t 2), none⟩, 
    ⟨some 16, .load 2 false 1 (.t 15), none⟩, 
    ⟨some 17, .faddr 0 (.t 3), none⟩, 
    ⟨some 18, .load 2 false 1 (.t 17), none⟩, 
    ⟨some 19, .bin .sub (.t 16) (.t 18), none⟩, 
    ⟨some 4, .move false (.t 19), none⟩]) (
  .ret)))
def R.gantmake_Cells_1 : List ARes := [.t 4]
set_option maxRecDepth 100000 in
theorem K.gantmake_Cells_1 : ckFun Try.prog Try.f181 C.gantmake_Cells_1 R.gantmake_Cells_1 = true := by kernel_rfl
/-- (*gantry/gantmake.Stream).Next -/
def C.gantmake_Stream_Next : ACode :=
  .seq (.region [
    ⟨some 4, .move false (.c (.int .i64 0)), none⟩]) (
  .seq (.seq (.region [
    ⟨some 6, .move false (.t 0), none⟩, 
    ⟨some 7, .nilck (.t 6), none⟩, 
    ⟨some 8, .faddr 0 (.t 7), none⟩, 
    ⟨some 9, .load 2 false 1 (.t 8), none⟩, 
    ⟨some 10, .len (.t 9), none⟩, 
    ⟨some 11, .bin .eql (.t 10) (.c (.int .i64 0)), none⟩, 
    ⟨some 12, .move false (.t 11), none⟩, 
    ⟨some 13, .move false (.t 1), (some (12, false))⟩, 
    ⟨some 14, .bin .lss (.t 13) (.c (.int .i64 1)), (some (12, false))⟩, 
    ⟨some 15, .pick (.t 12) (.c (.bool true)) (.t 14), none⟩]) (
  .cond (.t 15) (.seq (.region [
    ⟨some 4, .move false (.c (.int .i64 0)), none⟩]) (
  .ret)) (.skip))) (
  .seq (.region [
    ⟨some 16, .move false (.t 0), none⟩, 
    ⟨some 17, .nilck (.t 16), none⟩, 
    ⟨some 18, .faddr 0 (.t 17), none⟩, 
    ⟨some 19, .load 2 false 1 (.t 18), none⟩, 
    ⟨some 20, .iaddr 1 (.t 19) (.c (.int .i64 0)), none⟩, 
    ⟨some 21, .load 2 false 1 (.t 20), none⟩, 
    ⟨some 5, .move false (.t 21), none⟩]) (
  .seq (.region [
    ⟨some 22, .move false (.t 0), none⟩, 
    ⟨some 23, .move false (.t 0), none⟩, 
    ⟨some 24, .nilck (.t 23), none⟩, 
    ⟨some 25, .faddr 0 (.t 24), none⟩, 
    ⟨some 26, .load 2 false 1 (.t 25), none⟩, 
    ⟨some 27, .slice 1 (.t 26) (some (.c (.int .i64 1))) none none, none⟩, 
    ⟨some 28, .nilck (.t 22), none⟩, 
    ⟨some 29, .faddr 0 (.t 28), none⟩, 
    ⟨none, .store 1 (.t 29) (.t 27), none⟩]) (
  .seq (.region [
    ⟨some 30, .move false (.t 5), none⟩, 
    ⟨some 31, .move false (.t 1), none⟩, 
    ⟨some 32, .call true F.gantmake_Below [(.t 30), (.t 31)], none⟩, 
    ⟨some 4, .move false (.t 32), none⟩]) (
  .ret)))))
def R.gantmake_Stream_Next : List ARes := [.t 4]
set_option maxRecDepth 100000 in
theorem K.gantmake_Stream_Next : ckFun Try.prog Try.f161 C.gantmake_Stream_Next R.gantmake_Stream_Next = true := by kernel_rfl
/-- gantry/gantmake.Msg -/
def C.gantmake_Msg : ACode :=
  .seq (.region [
    ⟨some 2, .alloc false [(.int .i64 0), (.int .i64 0), (.int .i64 0), (.int .i64 0), (.int .u32 0), (.lst .nil [])], none⟩]) (
  .seq (.region [
    ⟨some 5, .move false (.t 0), none⟩, 
    ⟨some 6, .build [(.lst .nil [])] [(0, 1, (.t 5))], none⟩, 
    ⟨some 7, .bx true (.t 6), none⟩, 
    ⟨some 3, .move false (.t 7), none⟩]) (
  .seq (.prom 7 (.region [
    ⟨some 8, .move false (.t 3), none⟩, 
    ⟨some 9, .call true F.gantmake_Stream_Next [(.t 8), (.c (.int .i64 4))], none⟩, 
    ⟨some 10, .move false (.t 3), none⟩, 
    ⟨some 11, .call true F.gantmake_Stream_Next [(.t 10), (.c (.int .i64 4))], none⟩, 
    ⟨some 12, .move false (.t 3), none⟩, 
    ⟨some 13, .call true F.gantmake_Stream_Next [(.t 12), (.c (.int .i64 4))], none⟩, 
    ⟨some 14, .move false (.t 3), none⟩, 
    ⟨some 15, .call true F.gantmake_Stream_Next [(.t 14), (.c (.int .i64 1000))], none⟩, 
    ⟨some 16, .move false (.t 3), none⟩, 
    ⟨some 17, .call true F.gantmake_Stream_Next [(.t 16), (.c (.int .i64 4294967296))], none⟩, 
    ⟨some 18, .conv .u32 (.t 17), none⟩, 
    ⟨some 19, .build [(.int .i64 0), (.int .i64 0), (.int .i64 0), (.int .i64 0), (.int .u32 0), (.lst .nil [])] [(0, 1, (.t 9)), (1, 1, (.t 11)), (2, 1, (.t 13)), (3, 1, (.t 15)), (4, 1, (.t 18))], none⟩, 
    ⟨some 4, .alloc false [(.int .i64 0), (.int .i64 0), (.int .i64 0), (.int .i64 0), (.int .u32 0), (.lst .nil [])], none⟩, 
    ⟨none, .store 6 (.t 4) (.t 19), none⟩])) (
  .seq (.seq (.region [
    ⟨some 20, .faddr 0 (.t 4), none⟩, 
    ⟨some 21, .load 2 false 1 (.t 20), none⟩, 
    ⟨some 22, .bin .neq (.t 21) (.c (.int .i64 3)), none⟩]) (
  .cond (.t 22) (.region [
    ⟨some 23, .move false (.t 3), none⟩, 
    ⟨some 24, .nilck (.t 23), none⟩, 
    ⟨some 25, .faddr 0 (.t 24), none⟩, 
    ⟨some 26, .load 2 false 1 (.t 25), none⟩, 
    ⟨some 27, .call true F.gantmake_Cells [(.t 26)], none⟩, 
    ⟨some 28, .faddr 5 (.t 4), none⟩, 
    ⟨none, .store 1 (.t 28) (.t 27), none⟩]) (.skip))) (
  .seq (.region [
    ⟨some 29, .load 2 true 6 (.t 4), none⟩, 
    ⟨none, .store 6 (.t 2) (.t 29), none⟩]) (
  .ret)))))
def R.gantmake_Msg : List ARes := [.c 2 true 6]
set_option maxRecDepth 100000 in
theorem K.gantmake_Msg : ckFun Try.prog Try.f80 C.gantmake_Msg R.gantmake_Msg = true := by kernel_rfl
/-- gantry/gantkeep5.message -/
def C.gantkeep5_message : ACode :=
  .seq (.region [
    ⟨some 2, .alloc false [(.int .i64 0), (.int .i64 0), (.int .i64 0), (.int .i64 0), (.int .u32 0), (.lst .nil [])], none⟩]) (
  .seq (.region [
    ⟨some 3, .move false (.t 0), none⟩, 
    ⟨some 4, .call true F.gantmake_Msg [(.t 3)], none⟩, 
    ⟨none, .store 6 (.t 2) (.t 4), none⟩]) (
  .ret))
def R.gantkeep5_message : List ARes := [.c 2 true 6]
set_option maxRecDepth 100000 in
theorem K.gantkeep5_message : ckFun Try.prog Try.f78 C.gantkeep5_message R.gantkeep5_message = true := by kernel_rfl
/-- slices.Contains[[]gantry/api.Cell,gantry/api.Cell] -/
def C.slices_Contains_Cell : ACode :=
  .seq (.region [
    ⟨some 3, .bx false (.t 1), none⟩, 
    ⟨some 4, .move false (.c (.bool false)), none⟩]) (
  .seq (.region [
    ⟨some 5, .move false (.t 0), none⟩, 
    ⟨some 6, .load 2 true 2 (.t 3), none⟩, 
    ⟨some 7, .call true F.slices_Index_Cell [(.t 5), (.t 6)], none⟩, 
    ⟨some 8, .bin .geq (.t 7) (.c (.int .i64 0)), none⟩, 
    ⟨some 4, .move false (.t 8), none⟩]) (
  .ret))
def R.slices_Contains_Cell : List ARes := [.t 4]
set_option maxRecDepth 100000 in
theorem K.slices_Contains_Cell : ckFun Try.prog Try.f179 C.slices_Contains_Cell R.slices_Contains_Cell = true := by kernel_rfl
/-- slices.Index[[]gantry/api.Cell,gantry/api.Cell] -/
def C.slices_Index_Cell : ACode :=
  .seq (.region [
    ⟨some 3, .bx false (.t 1), none⟩, 
    ⟨some 4, .move false (.c (.int .i64 0)), none⟩]) (
  .seq (.seq (.region [
    ⟨some 6, .move false (.t 0), none⟩, 
    ⟨some 7, .len (.t 6), none⟩, 
    ⟨some 8, .move false (.c (.int .i64 0)), none⟩]) (
  .block 0 (.loop (.seq (.region [
    ⟨some 9, .bin .lss (.t 8) (.t 7), none⟩]) (
  .seq (.cond (.t 9) (.skip) (.exit 0)) (
  .seq (.block 1 (.seq (.region [
    ⟨some 10, .move false (.t 8), none⟩, 
    ⟨some 5, .move false (.t 10), none⟩]) (
  .seq (.drawn [0, 1, 2, 3, 4, 5] [0, 0, 0, 6, 14, 31] [
    ⟨some 11, .load 1 true 2 (.t 3), none⟩, 
    ⟨some 12, .move false (.t 0), none⟩, 
    ⟨some 13, .move false (.t 5), none⟩, 
    ⟨some 14, .iaddr 2 (.t 12) (.t 13), none⟩, 
    ⟨some 15, .load 2 true 2 (.t 14), none⟩, 
    ⟨some 16, .eqs false [.i .i64, .i .i64] (.t 11) (.t 15), none⟩]) (
  .cond (.t 16) (.seq (.region [
    ⟨some 17, .move false (.t 5), none⟩, 
    ⟨some 4, .move false (.t 17), none⟩]) (
  .ret)) (.skip))))) (
  .region [
    ⟨some 18, .bin .add (.t 8) (.c (.int .i64 1)), none⟩, 
    ⟨some 8, .move false (.t 18), none⟩]))))))) (
  .seq (.region [
    ⟨some 4, .move false (.c (.int .i64 (-1))), none⟩]) (
  .ret)))
def R.slices_Index_Cell : List ARes := [.t 4]
set_option maxRecDepth 100000 in
theorem K.slices_Index_Cell : ckFun Try.prog Try.f202 C.slices_Index_Cell R.slices_Index_Cell = true := by kernel_rfl
end Go.Proofs.Ytpdajkbfemcdlaa
/- Annotated code of functions, checked against the program. -/
namespace Go.Proofs.Ytpdajkbfemcdlaa
open Go.Ge
/-- slices.Clone[[]gantry/api.Cell,gantry/api.Cell] -/
def C.slices_Clone_CellR : ACode :=
  .seq (.region [
    ⟨some 2, .move false (.c (.lst .nil [])), none⟩]) (
  .seq (.seq (.region [
    ⟨some 3, .move false (.t 0), none⟩, 
    ⟨some 4, .isnil false false (.t 3), none⟩]) (
  .cond (.t 4) (.seq (.region [
    ⟨some 2, .move false (.c (.lst .nil [])), none⟩]) (
  .ret)) (.skip))) (
  .seq (.region [
    ⟨some 5, .bs0, none⟩, 
    ⟨some 6, .move false (.t 0), none⟩, 
    ⟨some 7, .hop (.appendR 2 16 (.t 5) (.t 6)), none⟩, 
    ⟨some 2, .move true (.t 7), none⟩]) (
  .ret)))
def R.slices_Clone_CellR : List ARes := [.t 2]
set_option maxRecDepth 100000 in
theorem K.slices_Clone_CellR : ckFun Try.prog Try.f148 C.slices_Clone_CellR R.slices_Clone_CellR = true := by kernel_rfl
/-- slices.Equal[[]gantry/api.Cell,gantry/api.Cell] -/
def C.slices_Equal_CellR : ACode :=
  .seq (.region [
    ⟨some 4, .move false (.c (.bool false)), none⟩]) (
  .seq (.seq (.region [
    ⟨some 6, .move false (.t 0), none⟩, 
    ⟨some 7, .len (.t 6), none⟩, 
    ⟨some 8, .move false (.t 1), none⟩, 
    ⟨some 9, .len (.t 8), none⟩, 
    ⟨some 10, .bin .neq (.t 7) (.t 9), none⟩]) (
  .cond (.t 10) (.seq (.region [
    ⟨some 4, .move false (.c (.bool false)), none⟩]) (
  .ret)) (.skip))) (
  .seq (.seq (.region [
    ⟨some 11, .move false (.t 0), none⟩, 
    ⟨some 12, .len (.t 11), none⟩, 
    ⟨some 13, .move false (.c (.int .i64 0)), none⟩]) (
  .block 0 (.loop (.seq (.region [
    ⟨some 14, .bin .lss (.t 13) (.t 12), none⟩]) (
  .seq (.cond (.t 14) (.skip) (.exit 0)) (
  .seq (.block 1 (.seq (.region [
    ⟨some 15, .move false (.t 13), none⟩, 
    ⟨some 5, .move false (.t 15), none⟩]) (
  .seq (.drawn [0, 1, 2, 3, 4, 5, 6, 7, 8] [0, 0, 3, 7, 0, 0, 48, 112, 255] [
    ⟨some 16, .move false (.t 0), none⟩, 
    ⟨some 17, .move false (.t 5), none⟩, 
    ⟨some 18, .iaddr 2 (.t 16) (.t 17), none⟩, 
    ⟨some 19, .load 2 true 2 (.t 18), none⟩, 
    ⟨some 20, .move false (.t 1), none⟩, 
    ⟨some 21, .move false (.t 5), none⟩, 
    ⟨some 22, .iaddr 2 (.t 20) (.t 21), none⟩, 
    ⟨some 23, .load 2 true 2 (.t 22), none⟩, 
    ⟨some 24, .eqs true [.i .i64, .i .i64] (.t 19) (.t 23), none⟩]) (
  .cond (.t 24) (.seq (.region [
    ⟨some 4, .move false (.c (.bool false)), none⟩]) (
  .ret)) (.skip))))) (
  .region [
    ⟨some 25, .bin .add (.t 13) (.c (.int .i64 1)), none⟩, 
    ⟨some 13, .move false (.t 25), none⟩]))))))) (
  .seq (.region [
    ⟨some 4, .move false (.c (.bool true)), none⟩]) (
  .ret))))
def R.slices_Equal_CellR : List ARes := [.t 4]
set_option maxRecDepth 100000 in
theorem K.slices_Equal_CellR : ckFun Try.prog Try.f123 C.slices_Equal_CellR R.slices_Equal_CellR = true := by kernel_rfl
/-- gantry/gantkeep5.MsgOwn -/
def C.gantkeep5_MsgOwn : ACode :=
  .seq (.region [
    ⟨some 2, .move false (.c (.bool false)), none⟩]) (
  .seq (.region [
    ⟨some 9, .build [(.int .i64 0), (.int .i64 0)] [(0, 1, (.c (.int .i64 1)))], none⟩, 
    ⟨some 10, .buildS false 2 [(.t 9)], none⟩, 
    ⟨some 11, .build [(.int .i64 0), (.int .i64 0), (.int .i64 0), (.int .i64 0), (.int .u32 0), (.lst .nil [])] [(0, 1, (.c (.int .i64 0))), (1, 1, (.c (.int .i64 0))), (2, 1, (.c (.int .i64 4))), (5, 1, (.t 10))], none⟩, 
    ⟨some 3, .alloc false [(.int .i64 0), (.int .i64 0), (.int .i64 0), (.int .i64 0), (.int .u32 0), (.lst .nil [])], none⟩, 
    ⟨none, .store 6 (.t 3) (.t 11), none⟩]) (
  .seq (.region [
    ⟨some 12, .load 2 true 6 (.t 3), none⟩, 
    ⟨some 13, .call true F.msg_Copy [(.t 12)], none⟩, 
    ⟨some 4, .alloc false [(.int .i64 0), (.int .i64 0), (.int .i64 0), (.int .i64 0), (.int .u32 0), (.lst .nil [])], none⟩, 
    ⟨none, .store 6 (.t 4) (.t 13), none⟩]) (
  .seq (.seq (.region [
    ⟨some 14, .faddr 5 (.t 4), none⟩, 
    ⟨some 15, .load 2 false 1 (.t 14), none⟩, 
    ⟨some 16, .len (.t 15), none⟩, 
    ⟨some 17, .bin .neq (.t 16) (.c (.int .i64 1)), none⟩]) (
  .cond (.t 17) (.seq (.region [
    ⟨some 2, .move false (.c (.bool false)), none⟩]) (
  .ret)) (.skip))) (
  .seq (.region [
    ⟨some 18, .faddr 5 (.t 4), none⟩, 
    ⟨some 19, .load 2 false 1 (.t 18), none⟩, 
    ⟨some 20, .iaddr 2 (.t 19) (.c (.int .i64 0)), none⟩, 
    ⟨some 21, .faddr 0 (.t 20), none⟩, 
    ⟨none, .store 1 (.t 21) (.c (.int .i64 9)), none⟩]) (
  .seq (.region [
    ⟨some 22, .move false (.t 0), none⟩, 
    ⟨some 23, .call true F.gantkeep5_message [(.t 22)], none⟩, 
    ⟨some 5, .alloc false [(.int .i64 0), (.int .i64 0), (.int .i64 0), (.int .i64 0), (.int .u32 0), (.lst .nil [])], none⟩, 
    ⟨none, .store 6 (.t 5) (.t 23), none⟩]) (
  .seq (.region [
    ⟨some 24, .load 2 true 6 (.t 5), none⟩, 
    ⟨some 25, .call true F.msg_Copy [(.t 24)], none⟩, 
    ⟨some 6, .alloc false [(.int .i64 0), (.int .i64 0), (.int .i64 0), (.int .i64 0), (.int .u32 0), (.lst .nil [])], none⟩, 
    ⟨none, .store 6 (.t 6) (.t 25), none⟩]) (
  .seq (.region [
    ⟨some 26, .load 2 true 6 (.t 5), none⟩, 
    ⟨some 27, .load 2 true 6 (.t 6), none⟩, 
    ⟨some 28, .call true F.msg_Same [(.t 26), (.t 27)], none⟩, 
    ⟨some 7, .move false (.t 28), none⟩]) (
  .seq (.seq (.region [
    ⟨some 29, .faddr 5 (.t 6), none⟩, 
    ⟨some 30, .load 2 false 1 (.t 29), none⟩, 
    ⟨some 31, .len (.t 30), none⟩, 
    ⟨some 32, .move false (.c (.int .i64 0)), none⟩]) (
  .block 0 (.loop (.seq (.region [
    ⟨some 33, .bin .lss (.t 32) (.t 31), none⟩]) (
  .seq (.cond (.t 33) (.skip) (.exit 0)) (
  .seq (.block 1 (.seq (.region [
    ⟨some 34, .move false (.t 32), none⟩, 
    ⟨some 8, .move false (.t 34), none⟩]) (
  .region [
    ⟨some 35, .faddr 5 (.t 6), none⟩, 
    ⟨some 36, .load 2 false 1 (.t 35), none⟩, 
    ⟨some 37, .move false (.t 8), none⟩, 
    ⟨some 38, .iaddr 2 (.t 36) (.t 37), none⟩, 
    ⟨some 39, .faddr 1 (.t 38), none⟩, 
    ⟨some 40, .load 2 false 1 (.t 39), none⟩, 
    ⟨some 41, .bin .add (.t 40) (.c (.int .i64 1)), none⟩, 
    ⟨some 42, .iaddr 2 (.t 36) (.t 37), none⟩, 
    ⟨some 43, .faddr 1 (.t 42), none⟩, 
    ⟨none, .store 1 (.t 43) (.t 41), none⟩]))) (
  .region [
    ⟨some 44, .bin .add (.t 32) (.c (.int .i64 1)), none⟩, 
    ⟨some 32, .move false (.t 44), none⟩]))))))) (
  .seq (.drawn [0, 1, 2, 3, 4, 5, 6, 7, 8, 9, 10, 11, 12, 13, 14, 15, 16, 17, 18, 19] [0, 1, 3, 7, 15, 31, 63, 127, 255, 511, 1023, 2047, 4095, 8191, 1023, 1023, 50175, 131071, 262143, 524287] [
    ⟨some 45, .move false (.t 7), none⟩, 
    ⟨some 46, .move false (.t 45), none⟩, 
    ⟨some 47, .faddr 5 (.t 3), (some (46, true))⟩, 
    ⟨some 48, .load 1 false 1 (.t 47), (some (46, true))⟩, 
    ⟨some 49, .iaddr 2 (.t 48) (.c (.int .i64 0)), (some (46, true))⟩, 
    ⟨some 50, .faddr 0 (.t 49), (some (46, true))⟩, 
    ⟨some 51, .load 0 false 1 (.t 50), (some (46, true))⟩, 
    ⟨some 52, .bin .eql (.t 51) (.c (.int .i64 1)), (some (46, true))⟩, 
    ⟨some 53, .pick (.t 46) (.t 52) (.c (.bool false)), none⟩, 
    ⟨some 54, .move false (.t 53), none⟩, 
    ⟨some 55, .faddr 5 (.t 5), (some (54, true))⟩, 
    ⟨some 56, .load 1 false 1 (.t 55), (some (54, true))⟩, 
    ⟨some 57, .len (.t 56), (some (54, true))⟩, 
    ⟨some 58, .bin .eql (.t 57) (.c (.int .i64 0)), (some (54, true))⟩, 
    ⟨some 59, .load 1 true 6 (.t 5), (some (54, true))⟩, 
    ⟨some 60, .load 1 true 6 (.t 6), (some (54, true))⟩, 
    ⟨some 61, .call false F.msg_Same [(.t 59), (.t 60)], (some (54, true))⟩, 
    ⟨some 62, .beq false (.t 58) (.t 61), (some (54, true))⟩, 
    ⟨some 63, .pick (.t 54) (.t 62) (.c (.bool false)), none⟩, 
    ⟨some 2, .move false (.t 63), none⟩]) (
  .ret))))))))))
def R.gantkeep5_MsgOwn : List ARes := [.t 2]
set_option maxRecDepth 100000 in
theorem K.gantkeep5_MsgOwn : ckFun Try.prog Try.f11 C.gantkeep5_MsgOwn R.gantkeep5_MsgOwn = true := by kernel_rfl
end Go.Proofs.Ytpdajkbfemcdlaa
