import Derived.Test.YtpdajkbfemcdlaaGeD
import Derived.Test.YtpdajkbfemcdlaaChecked
import Derived.Test.YtpdajkbfemcdlaaFn
import Derived.KernelRfl
/- Annotated code of functions, checked against the program. -/
namespace Go.Proofs.Ytpdajkbfemcdlaa
open Go.Ge
/-- gantry/msg.Sum -/
def C.msg_Sum : ACode :=
  .seq (.region [
    ⟨some 2, .move false (.c (.int .u32 0)), none⟩]) (
  .seq (.region [
    ⟨some 3, .move false (.c (.int .u32 4294967295)), none⟩]) (
  .seq (.seq (.region [
    ⟨some 6, .move false (.t 0), none⟩, 
    ⟨some 7, .len (.t 6), none⟩, 
    ⟨some 8, .move false (.c (.int .i64 0)), none⟩]) (
  .block 0 (.loop (.seq (.region [
    ⟨some 9, .bin .lss (.t 8) (.t 7), none⟩]) (
  .seq (.cond (.t 9) (.skip) (.exit 0)) (
  .seq (.block 1 (.seq (.region [
    ⟨some 10, .iaddr 1 (.t 6) (.t 8), none⟩, 
    ⟨some 11, .load 2 false 1 (.t 10), none⟩, 
    ⟨some 5, .move false (.t 11), none⟩]) (
  .seq (.region [
    ⟨some 12, .move false (.t 3), none⟩, 
    ⟨some 13, .move false (.t 5), none⟩, 
    ⟨some 14, .conv .u32 (.t 13), none⟩, 
    ⟨some 15, .bin .xor (.t 12) (.t 14), none⟩, 
    ⟨some 3, .move false (.t 15), none⟩]) (
  .seq (.region [
    ⟨some 16, .move false (.c (.int .i64 0)), none⟩]) (
  .block 2 (.loop (.seq (.region [
    ⟨some 17, .bin .lss (.t 16) (.c (.int .i64 8)), none⟩]) (
  .seq (.cond (.t 17) (.skip) (.exit 2)) (
  .seq (.block 3 (.region [
    ⟨some 18, .move false (.t 3), none⟩, 
    ⟨some 19, .bin .shr (.t 18) (.c (.int .u64 1)), none⟩, 
    ⟨some 20, .move false (.t 3), none⟩, 
    ⟨some 21, .bin .and (.t 20) (.c (.int .u32 1)), none⟩, 
    ⟨some 22, .bin .mul (.c (.int .u32 3988292384)) (.t 21), none⟩, 
    ⟨some 23, .bin .xor (.t 19) (.t 22), none⟩, 
    ⟨some 3, .move false (.t 23), none⟩])) (
  .region [
    ⟨some 24, .bin .add (.t 16) (.c (.int .i64 1)), none⟩, 
    ⟨some 16, .move false (.t 24), none⟩])))))))))) (
  .region [
    ⟨some 25, .bin .add (.t 8) (.c (.int .i64 1)), none⟩, 
    ⟨some 8, .move false (.t 25), none⟩]))))))) (
  .seq (.region [
    ⟨some 26, .move false (.t 3), none⟩, 
    ⟨some 27, .un .xor (.t 26), none⟩, 
    ⟨some 2, .move false (.t 27), none⟩]) (
  .ret))))
def R.msg_Sum : List ARes := [.t 2]
set_option maxRecDepth 100000 in
theorem K.msg_Sum : ckFun Try.prog Try.f46 C.msg_Sum R.msg_Sum = true := by kernel_rfl
end Go.Proofs.Ytpdajkbfemcdlaa
set_option linter.unusedSimpArgs false
namespace Go.Proofs.Ytpdajkbfemcdlaa
open Go.Ge
/-- The m least significant bytes of a number, the most significant first. -/
def beBytes (n : Int) : Nat → List Int
  | 0 => []
  | m + 1 => beBytes (n / 256) m ++ [n % 256]
theorem beBytes_length (n : Int) (m : Nat) : (beBytes n m).length = m := by
  induction m generalizing n with
  | zero => rfl
  | succ m ih => simp [beBytes, ih]
end Go.Proofs.Ytpdajkbfemcdlaa
/- Annotated code of functions, checked against the program. -/
namespace Go.Proofs.Ytpdajkbfemcdlaa
open Go.Ge
/-- gantry/msg.Same -/
def C.msg_Same : ACode :=
  .seq (.region [
    ⟨some 2, .bx true (.t 0), none⟩, 
    ⟨some 3, .bx true (.t 1), none⟩, 
    ⟨some 4, .move false (.c (.bool false)), none⟩]) (
  .seq (.region [
    ⟨some 5, .faddr 0 (.t 2), none⟩, 
    ⟨some 6, .load 2 false 1 (.t 5), none⟩, 
    ⟨some 7, .faddr 0 (.t 3), none⟩, 
    ⟨some 8, .load 2 false 1 (.t 7), none⟩, 
    ⟨some 9, .bin .eql (.t 6) (.t 8), none⟩, 
    ⟨some 10, .move false (.t 9), none⟩, 
    ⟨some 11, .faddr 1 (.t 2), (some (10, true))⟩, 
    ⟨some 12, .load 2 false 1 (.t 11), (some (10, true))⟩, 
    ⟨some 13, .faddr 1 (.t 3), (some (10, true))⟩, 
    ⟨some 14, .load 2 false 1 (.t 13), (some (10, true))⟩, 
    ⟨some 15, .bin .eql (.t 12) (.t 14), (some (10, true))⟩, 
    ⟨some 16, .pick (.t 10) (.t 15) (.c (.bool false)), none⟩, 
    ⟨some 17, .move false (.t 16), none⟩, 
    ⟨some 18, .faddr 2 (.t 2), (some (17, true))⟩, 
    ⟨some 19, .load 2 false 1 (.t 18), (some (17, true))⟩, 
    ⟨some 20, .faddr 2 (.t 3), (some (17, true))⟩, 
    ⟨some 21, .load 2 false 1 (.t 20), (some (17, true))⟩, 
    ⟨some 22, .bin .eql (.t 19) (.t 21), (some (17, true))⟩, 
    ⟨some 23, .pick (.t 17) (.t 22) (.c (.bool false)), none⟩, 
    ⟨some 24, .move false (.t 23), none⟩, 
    ⟨some 25, .faddr 3 (.t 2), (some (24, true))⟩, 
    ⟨some 26, .load 2 false 1 (.t 25), (some (24, true))⟩, 
    ⟨some 27, .faddr 3 (.t 3), (some (24, true))⟩, 
    ⟨some 28, .load 2 false 1 (.t 27), (some (24, true))⟩, 
    ⟨some 29, .bin .eql (.t 26) (.t 28), (some (24, true))⟩, 
    ⟨some 30, .pick (.t 24) (.t 29) (.c (.bool false)), none⟩, 
    ⟨some 31, .move false (.t 30), none⟩, 
    ⟨some 32, .faddr 4 (.t 2), (some (31, true))⟩, 
    ⟨some 33, .load 2 false 1 (.t 32), (some (31, true))⟩, 
    ⟨some 34, .faddr 4 (.t 3), (some (31, true))⟩, 
    ⟨some 35, .load 2 false 1 (.t 34), (some (31, true))⟩, 
    ⟨some 36, .bin .eql (.t 33) (.t 35), (some (31, true))⟩, 
    ⟨some 37, .pick (.t 31) (.t 36) (.c (.bool false)), none⟩, 
    ⟨some 38, .move false (.t 37), none⟩, 
    ⟨some 39, .faddr 5 (.t 2), (some (38, true))⟩, 
    ⟨some 40, .load 2 false 1 (.t 39), (some (38, true))⟩, 
    ⟨some 41, .faddr 5 (.t 3), (some (38, true))⟩, 
    ⟨some 42, .load 2 false 1 (.t 41), (some (38, true))⟩, 
    ⟨some 43, .call true F.slices_Equal_Cell [(.t 40), (.t 42)], (some (38, true))⟩, 
    ⟨some 44, .pick (.t 38) (.t 43) (.c (.bool false)), none⟩, 
    ⟨some 4, .move false (.t 44), none⟩]) (
  .ret))
def R.msg_Same : List ARes := [.t 4]
set_option maxRecDepth 100000 in
theorem K.msg_Same : ckFun Try.prog Try.f47 C.msg_Same R.msg_Same = true := by kernel_rfl
/-- slices.Equal[[]gantry/api.Cell,gantry/api.Cell] -/
def C.slices_Equal_Cell : ACode :=
  .seq (.region [
    ⟨some 4, .move false (.c (.bool false)), none⟩]) (
  .seq (.seq (.region [
    ⟨some 6, .move false (.t 0), none⟩, 
    ⟨some 7, .len (.t 6), none⟩, 
    ⟨some 8, .move false (.t 1), none⟩, 
    ⟨some 9, .len (.t 8), none⟩, 
    ⟨some 10, .bin .neq (.t 7) (.t 9), none⟩]) (
  .cond (.t 10) (.seq (.region [
    ⟨some 4, .move false (.c (.bool false)), none⟩]) (
  .ret)) (.skip))) (
  .seq (.seq (.region [
    ⟨some 11, .move false (.t 0), none⟩, 
    ⟨some 12, .len (.t 11), none⟩, 
    ⟨some 13, .move false (.c (.int .i64 0)), none⟩]) (
  .block 0 (.loop (.seq (.region [
    ⟨some 14, .bin .lss (.t 13) (.t 12), none⟩]) (
  .seq (.cond (.t 14) (.skip) (.exit 0)) (
  .seq (.block 1 (.seq (.region [
    ⟨some 15, .move false (.t 13), none⟩, 
    ⟨some 5, .move false (.t 15), none⟩]) (
  .seq (.drawn [0, 1, 2, 3, 4, 5, 6, 7, 8] [0, 0, 3, 7, 0, 0, 48, 112, 255] [
    ⟨some 16, .move false (.t 0), none⟩, 
    ⟨some 17, .move false (.t 5), none⟩, 
    ⟨some 18, .iaddr 2 (.t 16) (.t 17), none⟩, 
    ⟨some 19, .load 0 true 2 (.t 18), none⟩, 
    ⟨some 20, .move false (.t 1), none⟩, 
    ⟨some 21, .move false (.t 5), none⟩, 
    ⟨some 22, .iaddr 2 (.t 20) (.t 21), none⟩, 
    ⟨some 23, .load 0 true 2 (.t 22), none⟩, 
    ⟨some 24, .eqs true [.i .i64, .i .i64] (.t 19) (.t 23), none⟩]) (
  .cond (.t 24) (.seq (.region [
    ⟨some 4, .move false (.c (.bool false)), none⟩]) (
  .ret)) (.skip))))) (
  .region [
    ⟨some 25, .bin .add (.t 13) (.c (.int .i64 1)), none⟩, 
    ⟨some 13, .move false (.t 25), none⟩]))))))) (
  .seq (.region [
    ⟨some 4, .move false (.c (.bool true)), none⟩]) (
  .ret))))
def R.slices_Equal_Cell : List ARes := [.t 4]
set_option maxRecDepth 100000 in
theorem K.slices_Equal_Cell : ckFun Try.prog Try.f123 C.slices_Equal_Cell R.slices_Equal_Cell = true := by kernel_rfl
end Go.Proofs.Ytpdajkbfemcdlaa
/- Contracts: sums of bytes. -/
set_option linter.unusedSimpArgs false
set_option linter.unusedVariables false
set_option maxRecDepth 10000
namespace Go.Proofs.Ytpdajkbfemcdlaa
open Go.Ge
theorem poly_and (b : BitVec 32) : b >>> 1 ^^^ bv 3988292384 * (b &&& bv 1) = rnd b := rfl
theorem sumFrom_take (b : BitVec 32) (l : List Int) (i : Nat) (h : i < l.length) : sumFrom b (l.take (i + 1)) = sumStep (sumFrom b (l.take i)) l[i] := by
  unfold sumFrom
  rw [List.take_add_one, List.getElem?_eq_getElem h]
  simp only [Option.toList, List.foldl_append, List.foldl_cons, List.foldl_nil]
theorem Sum_ok (o : Own) (l : List Int) (ho : Rdo o) (hb : ∀ x ∈ l, inU8 x) (hl : l.length < 4611686018427387904) (h : List HObj) :
    ACalls Try.prog F.msg_Sum [.lst o (ints .u8 l)] h (fun r h' => r = .int .u32 (iv (crc l)) ∧ h' = h) := by
  refine ACalls.of_aw Try.func46 K.msg_Sum (by simp [Try.f46]) ?_
  generalize hQ : retQ R.msg_Sum _ = Q
  simp (disch := first | assumption | omega) only [C.msg_Sum, go_sem, ↓reduceIte, Nat.reduceEqDiff, reduceCtorEq, Nat.reduceAdd, Nat.reduceLeDiff, Nat.reduceLT, wrapU32, reduceIte, Int.natCast_nonneg, Int.ofNat_lt, Int.ofNat_le, cond_true, cond_false, Int.reduceBEq, Int.reduceBNe, Int.reduceLT, Int.reduceLE, Int.reduceAdd, Int.reduceSub, Int.reduceMul, Int.reduceNeg, Int.reduceEq, Int.reduceNe, Nat.reduceMul, Nat.reduceSub, decide_true, decide_false, not_true_eq_false, not_false_eq_true, Bool.true_and, Bool.false_and, Bool.and_false]
  refine aw_count (fun d S => ∃ (i : Nat), i + d = l.length ∧ S.env 8 = .int .i64 i ∧ S.env 7 = .int .i64 l.length ∧ S.env 6 = .lst o (ints .u8 l) ∧
    S.env 3 = .int .u32 (iv (sumFrom (bv 4294967295) (l.take i))) ∧ S.heap = h) (n := l.length) ⟨0, by simp [go_sem, sumFrom]; rfl⟩ ?_
  rintro d S ⟨i, hi, e8, e7, e6, e3, eh⟩
  simp (disch := first | assumption | omega) only [e8, e7, e6, e3, eh, go_sem, ↓reduceIte, Nat.reduceEqDiff, reduceCtorEq, Nat.reduceAdd, Nat.reduceLeDiff, Nat.reduceLT, wrapU32, reduceIte, Int.natCast_nonneg, Int.ofNat_lt, Int.ofNat_le, cond_true, cond_false, Int.reduceBEq, Int.reduceBNe, Int.reduceLT, Int.reduceLE, Int.reduceAdd, Int.reduceSub, Int.reduceMul, Int.reduceNeg, Int.reduceEq, Int.reduceNe, Nat.reduceMul, Nat.reduceSub, decide_true, decide_false, not_true_eq_false, not_false_eq_true, Bool.true_and, Bool.false_and, Bool.and_false]
  refine condG_if (fun hlt => ?_) fun hge => ?_
  · have hlt : i < l.length := by omega
    have hx := hb _ (List.getElem_mem hlt)
    unfold inU8 at hx
    have hstep : sumFrom (bv 4294967295) (l.take (i + 1)) = sumStep (sumFrom (bv 4294967295) (l.take i)) l[i] := sumFrom_take _ l i hlt
    have hat := at_ints' (k := .u8) l i hlt
    rw [show l.getD i 0 = l[i] from by simp [List.getD_eq_getElem?_getD, hlt]] at hat
    generalize sumFrom (bv 4294967295) (l.take i) = s at *
    generalize l[i] = x at *
    simp (disch := first | assumption | omega) only [e8, e7, e6, e3, eh, hat, hlt, xor32, bv_iv, go_sem, ↓reduceIte, Nat.reduceEqDiff, reduceCtorEq, Nat.reduceAdd, Nat.reduceLeDiff, Nat.reduceLT, wrapU32, reduceIte, Int.natCast_nonneg, Int.ofNat_lt, Int.ofNat_le, cond_true, cond_false, Int.reduceBEq, Int.reduceBNe, Int.reduceLT, Int.reduceLE, Int.reduceAdd, Int.reduceSub, Int.reduceMul, Int.reduceNeg, Int.reduceEq, Int.reduceNe, Nat.reduceMul, Nat.reduceSub, decide_true, decide_false, not_true_eq_false, not_false_eq_true, Bool.true_and, Bool.false_and, Bool.and_false]
    refine aw_count (fun d' S' => ∃ (j : Nat), j + d' = 8 ∧ S'.env 16 = .int .i64 j ∧ S'.env 8 = .int .i64 i ∧ S'.env 7 = .int .i64 l.length ∧ S'.env 6 = .lst o (ints .u8 l) ∧
      S'.env 3 = .int .u32 (iv (rnds j (s ^^^ bv x))) ∧ S'.heap = h) (n := 8) ⟨0, by simp [go_sem, rnds, *]⟩ ?_
    clear e8 e7 e6 e3 eh
    rintro d' S' ⟨j, hj, e16, e8, e7, e6, e3, eh⟩
    simp (disch := first | assumption | omega) only [e8, e7, e6, e3, eh, e16, go_sem, ↓reduceIte, Nat.reduceEqDiff, reduceCtorEq, Nat.reduceAdd, Nat.reduceLeDiff, Nat.reduceLT, wrapU32, reduceIte, Int.natCast_nonneg, Int.ofNat_lt, Int.ofNat_le, cond_true, cond_false, Int.reduceBEq, Int.reduceBNe, Int.reduceLT, Int.reduceLE, Int.reduceAdd, Int.reduceSub, Int.reduceMul, Int.reduceNeg, Int.reduceEq, Int.reduceNe, Nat.reduceMul, Nat.reduceSub, decide_true, decide_false, not_true_eq_false, not_false_eq_true, Bool.true_and, Bool.false_and, Bool.and_false]
    refine condG_if (fun hlt2 => ?_) fun hge2 => ?_
    · simp (disch := first | assumption | omega) only [e8, e7, e6, e3, eh, e16, go_sem, ↓reduceIte, Nat.reduceEqDiff, reduceCtorEq, Nat.reduceAdd, Nat.reduceLeDiff, Nat.reduceLT, wrapU32, reduceIte, Int.natCast_nonneg, Int.ofNat_lt, Int.ofNat_le, cond_true, cond_false, Int.reduceBEq, Int.reduceBNe, Int.reduceLT, Int.reduceLE, Int.reduceAdd, Int.reduceSub, Int.reduceMul, Int.reduceNeg, Int.reduceEq, Int.reduceNe, Nat.reduceMul, Nat.reduceSub, decide_true, decide_false, not_true_eq_false, not_false_eq_true, Bool.true_and, Bool.false_and, Bool.and_false]
      have e1 := shr32 (rnds j (s ^^^ bv x)) 1
      simp (disch := first | assumption | omega) only [e8, e7, e6, e3, eh, e16, and32, bv_iv, mul32, xor32, go_sem, ↓reduceIte, Nat.reduceEqDiff, reduceCtorEq, Nat.reduceAdd, Nat.reduceLeDiff, Nat.reduceLT, wrapU32, reduceIte, Int.natCast_nonneg, Int.ofNat_lt, Int.ofNat_le, cond_true, cond_false, Int.reduceBEq, Int.reduceBNe, Int.reduceLT, Int.reduceLE, Int.reduceAdd, Int.reduceSub, Int.reduceMul, Int.reduceNeg, Int.reduceEq, Int.reduceNe, Nat.reduceMul, Nat.reduceSub, decide_true, decide_false, not_true_eq_false, not_false_eq_true, Bool.true_and, Bool.false_and, Bool.and_false]
      refine ⟨d' - 1, by omega, j + 1, by omega, by simp, ?_⟩
      rw [show min (Int.toNat 1) 32 = 1 from rfl, shr32, bv_iv, poly_and]
      rfl
    · obtain rfl : j = 8 := by omega
      simp (disch := first | assumption | omega) only [e8, e7, e6, e3, eh, e16, go_sem, ↓reduceIte, Nat.reduceEqDiff, reduceCtorEq, Nat.reduceAdd, Nat.reduceLeDiff, Nat.reduceLT, wrapU32, reduceIte, Int.natCast_nonneg, Int.ofNat_lt, Int.ofNat_le, cond_true, cond_false, Int.reduceBEq, Int.reduceBNe, Int.reduceLT, Int.reduceLE, Int.reduceAdd, Int.reduceSub, Int.reduceMul, Int.reduceNeg, Int.reduceEq, Int.reduceNe, Nat.reduceMul, Nat.reduceSub, decide_true, decide_false, not_true_eq_false, not_false_eq_true, Bool.true_and, Bool.false_and, Bool.and_false]
      refine ⟨d - 1, by omega, i + 1, by omega, by simp, ?_⟩
      rw [hstep]; rfl
  · obtain rfl : i = l.length := by omega
    simp (disch := first | assumption | omega) only [e8, e7, e6, e3, eh, go_sem, ↓reduceIte, Nat.reduceEqDiff, reduceCtorEq, Nat.reduceAdd, Nat.reduceLeDiff, Nat.reduceLT, wrapU32, reduceIte, Int.natCast_nonneg, Int.ofNat_lt, Int.ofNat_le, cond_true, cond_false, Int.reduceBEq, Int.reduceBNe, Int.reduceLT, Int.reduceLE, Int.reduceAdd, Int.reduceSub, Int.reduceMul, Int.reduceNeg, Int.reduceEq, Int.reduceNe, Nat.reduceMul, Nat.reduceSub, decide_true, decide_false, not_true_eq_false, not_false_eq_true, Bool.true_and, Bool.false_and, Bool.and_false]
    subst hQ
    simp (disch := first | assumption | omega) only [R.msg_Sum, go_sem, ↓reduceIte, Nat.reduceEqDiff, reduceCtorEq, Nat.reduceAdd, Nat.reduceLeDiff, Nat.reduceLT, wrapU32, reduceIte, Int.natCast_nonneg, Int.ofNat_lt, Int.ofNat_le, cond_true, cond_false, Int.reduceBEq, Int.reduceBNe, Int.reduceLT, Int.reduceLE, Int.reduceAdd, Int.reduceSub, Int.reduceMul, Int.reduceNeg, Int.reduceEq, Int.reduceNe, Nat.reduceMul, Nat.reduceSub, decide_true, decide_false, not_true_eq_false, not_false_eq_true, Bool.true_and, Bool.false_and, Bool.and_false]
    rw [List.take_length]
    simp only [xor32, bv_iv, IntKind.signed, Bool.false_eq_true, if_false]
    refine ⟨?_, eh⟩
    unfold crc
    rw [BitVec.xor_comm]; rfl
end Go.Proofs.Ytpdajkbfemcdlaa
/- Annotated code of functions, checked against the program. -/
namespace Go.Proofs.Ytpdajkbfemcdlaa
open Go.Ge
/-- slices.Grow[[]byte,byte] -/
def C.slices_Grow_byte : ACode :=
  .seq (.region [
    ⟨some 4, .move false (.c (.lst .nil [])), none⟩]) (
  .seq (.seq (.region [
    ⟨some 5, .move false (.t 1), none⟩, 
    ⟨some 6, .bin .lss (.t 5) (.c (.int .i64 0)), none⟩]) (
  .cond (.t 6) (.region [
    ⟨some 7, .refuse, none⟩, 
    ⟨none, .refuse, none⟩]) (.skip))) (
  .seq (.seq (.region [
    ⟨some 8, .move false (.t 1), none⟩, 
    ⟨some 9, .move false (.t 0), none⟩, 
    ⟨some 10, .capR (.t 9), none⟩, 
    ⟨some 11, .move false (.t 0), none⟩, 
    ⟨some 12, .len (.t 11), none⟩, 
    ⟨some 13, .bin .sub (.t 10) (.t 12), none⟩, 
    ⟨some 14, .bin .sub (.t 8) (.t 13), none⟩, 
    ⟨some 1, .move false (.t 14), none⟩]) (
  .seq (.region [
    ⟨some 15, .move false (.t 1), none⟩, 
    ⟨some 16, .bin .gtr (.t 15) (.c (.int .i64 0)), none⟩]) (
  .cond (.t 16) (.region [
    ⟨some 17, .move false (.t 0), none⟩, 
    ⟨some 18, .move false (.t 0), none⟩, 
    ⟨some 19, .capR (.t 18), none⟩, 
    ⟨some 20, .slnil (.t 17) (.t 19), none⟩, 
    ⟨some 21, .move false (.t 1), none⟩, 
    ⟨some 22, .hop (.appendZ 1 1 (.t 20) (.t 21)), none⟩, 
    ⟨some 23, .move false (.t 0), none⟩, 
    ⟨some 24, .len (.t 23), none⟩, 
    ⟨some 25, .slice 1 (.t 22) none (some (.t 24)) none, none⟩, 
    ⟨some 0, .move false (.t 25), none⟩]) (.skip)))) (
  .seq (.region [
    ⟨some 26, .move false (.t 0), none⟩, 
    ⟨some 4, .move false (.t 26), none⟩]) (
  .own 4 false 1 (.ret)))))
def R.slices_Grow_byte : List ARes := [.t 4]
set_option maxRecDepth 100000 in
theorem K.slices_Grow_byte : ckFun Try.prog Try.f160 C.slices_Grow_byte R.slices_Grow_byte = true := by kernel_rfl
/-- slices.Concat[[]byte,byte] -/
def C.slices_Concat_byte : ACode :=
  .seq (.region [
    ⟨some 2, .move false (.c (.lst .nil [])), none⟩]) (
  .seq (.region [
    ⟨some 3, .move false (.c (.int .i64 0)), none⟩]) (
  .seq (.seq (.region [
    ⟨some 9, .move false (.t 0), none⟩, 
    ⟨some 10, .len (.t 9), none⟩, 
    ⟨some 11, .move false (.c (.int .i64 0)), none⟩]) (
  .block 0 (.loop (.seq (.region [
    ⟨some 12, .bin .lss (.t 11) (.t 10), none⟩]) (
  .seq (.cond (.t 12) (.skip) (.exit 0)) (
  .seq (.block 1 (.seq (.region [
    ⟨some 13, .iaddr 1 (.t 9) (.t 11), none⟩, 
    ⟨some 14, .load 2 false 1 (.t 13), none⟩, 
    ⟨some 5, .move false (.t 14), none⟩]) (
  .seq (.region [
    ⟨some 15, .move false (.t 3), none⟩, 
    ⟨some 16, .move false (.t 5), none⟩, 
    ⟨some 17, .len (.t 16), none⟩, 
    ⟨some 18, .bin .add (.t 15) (.t 17), none⟩, 
    ⟨some 3, .move false (.t 18), none⟩]) (
  .seq (.region [
    ⟨some 19, .move false (.t 3), none⟩, 
    ⟨some 20, .bin .lss (.t 19) (.c (.int .i64 0)), none⟩]) (
  .cond (.t 20) (.region [
    ⟨some 21, .refuse, none⟩, 
    ⟨none, .refuse, none⟩]) (.skip)))))) (
  .region [
    ⟨some 22, .bin .add (.t 11) (.c (.int .i64 1)), none⟩, 
    ⟨some 11, .move false (.t 22), none⟩]))))))) (
  .seq (.region [
    ⟨some 23, .move false (.t 3), none⟩, 
    ⟨some 24, .call true F.slices_Grow_byte [(.c (.lst .nil [])), (.t 23)], none⟩, 
    ⟨some 6, .move true (.t 24), none⟩]) (
  .seq (.seq (.region [
    ⟨some 25, .move false (.t 0), none⟩, 
    ⟨some 26, .len (.t 25), none⟩, 
    ⟨some 27, .move false (.c (.int .i64 0)), none⟩]) (
  .block 2 (.loop (.seq (.region [
    ⟨some 28, .bin .lss (.t 27) (.t 26), none⟩]) (
  .seq (.cond (.t 28) (.skip) (.exit 2)) (
  .seq (.block 3 (.seq (.region [
    ⟨some 29, .iaddr 1 (.t 25) (.t 27), none⟩, 
    ⟨some 30, .load 2 false 1 (.t 29), none⟩, 
    ⟨some 8, .move false (.t 30), none⟩]) (
  .region [
    ⟨some 31, .move true (.t 6), none⟩, 
    ⟨some 32, .move false (.t 8), none⟩, 
    ⟨some 33, .append 1 1 (.t 31) (.t 32), none⟩, 
    ⟨some 6, .move true (.t 33), none⟩]))) (
  .region [
    ⟨some 34, .bin .add (.t 27) (.c (.int .i64 1)), none⟩, 
    ⟨some 27, .move false (.t 34), none⟩]))))))) (
  .seq (.region [
    ⟨some 35, .move true (.t 6), none⟩, 
    ⟨some 2, .move true (.t 35), none⟩]) (
  .ret))))))
def R.slices_Concat_byte : List ARes := [.t 2]
set_option maxRecDepth 100000 in
theorem K.slices_Concat_byte : ckFun Try.prog Try.f79 C.slices_Concat_byte R.slices_Concat_byte = true := by kernel_rfl
/-- gantry/log.scan -/
def C.log_scan : ACode :=
  .seq (.region [
    ⟨some 2, .move false (.c (.lst .nil [])), none⟩, 
    ⟨some 3, .move false (.c (.int .i64 0)), none⟩, 
    ⟨some 4, .move false (.c (.int .u32 0)), none⟩]) (
  .block 0 (.loop (.block 1 (.seq (.region [
    ⟨some 9, .move false (.t 0), none⟩, 
    ⟨some 10, .move false (.t 3), none⟩, 
    ⟨some 11, .slice 1 (.t 9) (some (.t 10)) none none, none⟩, 
    ⟨some 5, .move false (.t 11), none⟩]) (
  .seq (.seq (.region [
    ⟨some 12, .move false (.t 5), none⟩, 
    ⟨some 13, .len (.t 12), none⟩, 
    ⟨some 14, .bin .lss (.t 13) (.c (.int .i64 6)), none⟩]) (
  .cond (.t 14) (.seq (.region [
    ⟨some 15, .move true (.t 2), none⟩, 
    ⟨some 16, .move false (.t 3), none⟩, 
    ⟨some 17, .move false (.t 4), none⟩, 
    ⟨some 2, .move true (.t 15), none⟩, 
    ⟨some 3, .move false (.t 16), none⟩, 
    ⟨some 4, .move false (.t 17), none⟩]) (
  .ret)) (.skip))) (
  .seq (.drawn [0, 1, 2, 3, 4, 5, 6, 7, 8, 9, 10] [0, 1, 3, 7, 15, 0, 32, 96, 224, 511, 1023] [
    ⟨some 18, .move false (.t 5), none⟩, 
    ⟨some 19, .iaddr 1 (.t 18) (.c (.int .i64 0)), none⟩, 
    ⟨some 20, .load 0 false 1 (.t 19), none⟩, 
    ⟨some 21, .conv .i64 (.t 20), none⟩, 
    ⟨some 22, .bin .shl (.t 21) (.c (.int .u64 8)), none⟩, 
    ⟨some 23, .move false (.t 5), none⟩, 
    ⟨some 24, .iaddr 1 (.t 23) (.c (.int .i64 1)), none⟩, 
    ⟨some 25, .load 0 false 1 (.t 24), none⟩, 
    ⟨some 26, .conv .i64 (.t 25), none⟩, 
    ⟨some 27, .bin .or (.t 22) (.t 26), none⟩, 
    ⟨some 6, .move false (.t 27), none⟩]) (
  .seq (.seq (.region [
    ⟨some 28, .move false (.t 6), none⟩, 
    ⟨some 29, .bin .gtr (.t 28) (.c (.int .i64 2000)), none⟩, 
    ⟨some 30, .move false (.t 29), none⟩, 
    ⟨some 31, .move false (.t 5), (some (30, false))⟩, 
    ⟨some 32, .len (.t 31), (some (30, false))⟩, 
    ⟨some 33, .move false (.t 6), (some (30, false))⟩, 
    ⟨some 34, .bin .add (.c (.int .i64 6)) (.t 33), (some (30, false))⟩, 
    ⟨some 35, .bin .lss (.t 32) (.t 34), (some (30, false))⟩, 
    ⟨some 36, .pick (.t 30) (.c (.bool true)) (.t 35), none⟩]) (
  .cond (.t 36) (.seq (.region [
    ⟨some 37, .move true (.t 2), none⟩, 
    ⟨some 38, .move false (.t 3), none⟩, 
    ⟨some 39, .move false (.t 4), none⟩, 
    ⟨some 2, .move true (.t 37), none⟩, 
    ⟨some 3, .move false (.t 38), none⟩, 
    ⟨some 4, .move false (.t 39), none⟩]) (
  .ret)) (.skip))) (
  .seq (.region [
    ⟨some 40, .move false (.t 5), none⟩, 
    ⟨some 41, .move false (.t 6), none⟩, 
    ⟨some 42, .bin .add (.c (.int .i64 2)) (.t 41), none⟩, 
    ⟨some 43, .slice 1 (.t 40) (some (.c (.int .i64 2))) (some (.t 42)) none, none⟩, 
    ⟨some 7, .move false (.t 43), none⟩]) (
  .seq (.region [
    ⟨some 44, .move false (.t 4), none⟩, 
    ⟨some 45, .move false (.t 7), none⟩, 
    ⟨some 46, .call true F.log_sum [(.t 44), (.t 45)], none⟩, 
    ⟨some 8, .move false (.t 46), none⟩]) (
  .seq (.seq (.drawn [0, 1, 2, 3, 4, 5, 6, 7, 8, 9] [0, 0, 2, 0, 8, 31, 0, 64, 255, 511] [
    ⟨some 47, .move false (.t 5), none⟩, 
    ⟨some 48, .move false (.t 6), none⟩, 
    ⟨some 49, .bin .add (.c (.int .i64 2)) (.t 48), none⟩, 
    ⟨some 50, .move false (.t 6), none⟩, 
    ⟨some 51, .bin .add (.c (.int .i64 6)) (.t 50), none⟩, 
    ⟨some 52, .slice 1 (.t 47) (some (.t 49)) (some (.t 51)) none, none⟩, 
    ⟨some 53, .move false (.t 8), none⟩, 
    ⟨some 54, .call false F.log_four [(.t 53)], none⟩, 
    ⟨some 55, .call false F.slices_Equal_byte [(.t 52), (.t 54)], none⟩, 
    ⟨some 56, .un .not (.t 55), none⟩]) (
  .cond (.t 56) (.seq (.region [
    ⟨some 57, .move true (.t 2), none⟩, 
    ⟨some 58, .move false (.t 3), none⟩, 
    ⟨some 59, .move false (.t 4), none⟩, 
    ⟨some 2, .move true (.t 57), none⟩, 
    ⟨some 3, .move false (.t 58), none⟩, 
    ⟨some 4, .move false (.t 59), none⟩]) (
  .ret)) (.skip))) (
  .region [
    ⟨some 60, .move true (.t 2), none⟩, 
    ⟨some 61, .buildS false 1 [], none⟩, 
    ⟨some 62, .move false (.t 7), none⟩, 
    ⟨some 63, .append 1 1 (.t 61) (.t 62), none⟩, 
    ⟨some 64, .buildS false 1 [(.t 63)], none⟩, 
    ⟨some 65, .append 1 24 (.t 60) (.t 64), none⟩, 
    ⟨some 66, .move false (.t 3), none⟩, 
    ⟨some 67, .bin .add (.t 66) (.c (.int .i64 6)), none⟩, 
    ⟨some 68, .move false (.t 6), none⟩, 
    ⟨some 69, .bin .add (.t 67) (.t 68), none⟩, 
    ⟨some 70, .move false (.t 8), none⟩, 
    ⟨some 2, .move true (.t 65), none⟩, 
    ⟨some 3, .move false (.t 69), none⟩, 
    ⟨some 4, .move false (.t 70), none⟩])))))))))))
def R.log_scan : List ARes := [.t 2, .t 3, .t 4]
set_option maxRecDepth 100000 in
theorem K.log_scan : ckFun Try.prog Try.f151 C.log_scan R.log_scan = true := by kernel_rfl
/-- gantry/log.four -/
def C.log_four : ACode :=
  .seq (.region [
    ⟨some 2, .move false (.c (.lst .nil [])), none⟩]) (
  .seq (.region [
    ⟨some 3, .move false (.t 0), none⟩, 
    ⟨some 4, .bin .shr (.t 3) (.c (.int .u64 24)), none⟩, 
    ⟨some 5, .conv .u8 (.t 4), none⟩, 
    ⟨some 6, .move false (.t 0), none⟩, 
    ⟨some 7, .bin .shr (.t 6) (.c (.int .u64 16)), none⟩, 
    ⟨some 8, .conv .u8 (.t 7), none⟩, 
    ⟨some 9, .move false (.t 0), none⟩, 
    ⟨some 10, .bin .shr (.t 9) (.c (.int .u64 8)), none⟩, 
    ⟨some 11, .conv .u8 (.t 10), none⟩, 
    ⟨some 12, .move false (.t 0), none⟩, 
    ⟨some 13, .conv .u8 (.t 12), none⟩, 
    ⟨some 14, .buildS false 1 [(.t 5), (.t 8), (.t 11), (.t 13)], none⟩, 
    ⟨some 2, .move true (.t 14), none⟩]) (
  .ret))
def R.log_four : List ARes := [.t 2]
set_option maxRecDepth 100000 in
theorem K.log_four : ckFun Try.prog Try.f152 C.log_four R.log_four = true := by kernel_rfl
/-- gantry/log.sum -/
def C.log_sum : ACode :=
  .seq (.region [
    ⟨some 4, .move false (.c (.int .u32 0)), none⟩]) (
  .seq (.region [
    ⟨some 5, .move false (.t 0), none⟩, 
    ⟨some 6, .call true F.log_four [(.t 5)], none⟩, 
    ⟨some 7, .move false (.t 1), none⟩, 
    ⟨some 8, .len (.t 7), none⟩, 
    ⟨some 9, .bin .shr (.t 8) (.c (.int .u64 8)), none⟩, 
    ⟨some 10, .conv .u8 (.t 9), none⟩, 
    ⟨some 11, .move false (.t 1), none⟩, 
    ⟨some 12, .len (.t 11), none⟩, 
    ⟨some 13, .conv .u8 (.t 12), none⟩, 
    ⟨some 14, .buildS false 1 [(.t 10), (.t 13)], none⟩, 
    ⟨some 15, .move false (.t 1), none⟩, 
    ⟨some 16, .buildS false 1 [(.t 6), (.t 14), (.t 15)], none⟩, 
    ⟨some 17, .call true F.slices_Concat_byte [(.t 16)], none⟩, 
    ⟨some 18, .call true F.msg_Sum [(.t 17)], none⟩, 
    ⟨some 4, .move false (.t 18), none⟩]) (
  .ret))
def R.log_sum : List ARes := [.t 4]
set_option maxRecDepth 100000 in
theorem K.log_sum : ckFun Try.prog Try.f153 C.log_sum R.log_sum = true := by kernel_rfl
/-- gantry/log.Read -/
def C.log_Read : ACode :=
  .seq (.region [
    ⟨some 2, .move false (.c (.lst .nil [])), none⟩, 
    ⟨some 3, .move false (.c (.int .i64 0)), none⟩]) (
  .seq (.region [
    ⟨some 8, .move false (.t 0), none⟩, 
    ⟨some 9, .call true F.log_scan [(.t 8)], none⟩, 
    ⟨some 7, .moveX 9, none⟩, 
    ⟨some 10, .extT 0 7, none⟩, 
    ⟨some 11, .ext 1 (.t 7), none⟩, 
    ⟨some 12, .ext 2 (.t 7), none⟩, 
    ⟨some 4, .move true (.t 10), none⟩, 
    ⟨some 5, .move false (.t 11), none⟩, 
    ⟨some 6, .move false (.t 12), none⟩]) (
  .seq (.region [
    ⟨some 13, .move true (.t 4), none⟩, 
    ⟨some 14, .move false (.t 5), none⟩, 
    ⟨some 2, .move true (.t 13), none⟩, 
    ⟨some 3, .move false (.t 14), none⟩]) (
  .ret)))
def R.log_Read : List ARes := [.t 2, .t 3]
set_option maxRecDepth 100000 in
theorem K.log_Read : ckFun Try.prog Try.f63 C.log_Read R.log_Read = true := by kernel_rfl
/-- gantry/log.Add -/
def C.log_Add : ACode :=
  .seq (.region [
    ⟨some 4, .move false (.c (.lst .nil [])), none⟩, 
    ⟨some 5, .move false (.c (.int .i64 0)), none⟩]) (
  .seq (.seq (.region [
    ⟨some 10, .move false (.t 1), none⟩, 
    ⟨some 11, .len (.t 10), none⟩, 
    ⟨some 12, .bin .gtr (.t 11) (.c (.int .i64 2000)), none⟩]) (
  .cond (.t 12) (.seq (.region [
    ⟨some 4, .move false (.c (.lst .nil [])), none⟩, 
    ⟨some 5, .move false (.c (.int .i64 2)), none⟩]) (
  .ret)) (.skip))) (
  .seq (.region [
    ⟨some 14, .move false (.t 0), none⟩, 
    ⟨some 15, .call true F.log_scan [(.t 14)], none⟩, 
    ⟨some 13, .move false (.t 15), none⟩, 
    ⟨some 16, .ext 0 (.t 13), none⟩, 
    ⟨some 17, .ext 1 (.t 13), none⟩, 
    ⟨some 18, .ext 2 (.t 13), none⟩, 
    ⟨some 6, .move false (.t 16), none⟩, 
    ⟨some 7, .move false (.t 17), none⟩, 
    ⟨some 8, .move false (.t 18), none⟩]) (
  .seq (.seq (.region [
    ⟨some 19, .move false (.t 7), none⟩, 
    ⟨some 20, .bin .add (.t 19) (.c (.int .i64 6)), none⟩, 
    ⟨some 21, .move false (.t 1), none⟩, 
    ⟨some 22, .len (.t 21), none⟩, 
    ⟨some 23, .bin .add (.t 20) (.t 22), none⟩, 
    ⟨some 24, .bin .gtr (.t 23) (.c (.int .i64 100000)), none⟩]) (
  .cond (.t 24) (.seq (.region [
    ⟨some 4, .move false (.c (.lst .nil [])), none⟩, 
    ⟨some 5, .move false (.c (.int .i64 6)), none⟩]) (
  .ret)) (.skip))) (
  .seq (.region [
    ⟨some 25, .buildS false 1 [], none⟩, 
    ⟨some 26, .move false (.t 0), none⟩, 
    ⟨some 27, .move false (.t 7), none⟩, 
    ⟨some 28, .slice 1 (.t 26) none (some (.t 27)) none, none⟩, 
    ⟨some 29, .append 1 1 (.t 25) (.t 28), none⟩, 
    ⟨some 9, .move true (.t 29), none⟩]) (
  .seq (.region [
    ⟨some 30, .move true (.t 9), none⟩, 
    ⟨some 31, .move false (.t 1), none⟩, 
    ⟨some 32, .len (.t 31), none⟩, 
    ⟨some 33, .bin .shr (.t 32) (.c (.int .u64 8)), none⟩, 
    ⟨some 34, .conv .u8 (.t 33), none⟩, 
    ⟨some 35, .move false (.t 1), none⟩, 
    ⟨some 36, .len (.t 35), none⟩, 
    ⟨some 37, .conv .u8 (.t 36), none⟩, 
    ⟨some 38, .buildS false 1 [(.t 34), (.t 37)], none⟩, 
    ⟨some 39, .append 1 1 (.t 30) (.t 38), none⟩, 
    ⟨some 9, .move true (.t 39), none⟩]) (
  .seq (.region [
    ⟨some 40, .move true (.t 9), none⟩, 
    ⟨some 41, .move false (.t 1), none⟩, 
    ⟨some 42, .append 1 1 (.t 40) (.t 41), none⟩, 
    ⟨some 9, .move true (.t 42), none⟩]) (
  .seq (.region [
    ⟨some 43, .move true (.t 9), none⟩, 
    ⟨some 44, .move false (.t 8), none⟩, 
    ⟨some 45, .move false (.t 1), none⟩, 
    ⟨some 46, .call true F.log_sum [(.t 44), (.t 45)], none⟩, 
    ⟨some 47, .call true F.log_four [(.t 46)], none⟩, 
    ⟨some 48, .append 1 1 (.t 43) (.t 47), none⟩, 
    ⟨some 4, .move true (.t 48), none⟩, 
    ⟨some 5, .move false (.c (.int .i64 0)), none⟩]) (
  .ret))))))))
def R.log_Add : List ARes := [.t 4, .t 5]
set_option maxRecDepth 100000 in
theorem K.log_Add : ckFun Try.prog Try.f61 C.log_Add R.log_Add = true := by kernel_rfl
/-- slices.Equal[[]byte,byte] -/
def C.slices_Equal_byte : ACode :=
  .seq (.region [
    ⟨some 4, .move false (.c (.bool false)), none⟩]) (
  .seq (.seq (.region [
    ⟨some 6, .move false (.t 0), none⟩, 
    ⟨some 7, .len (.t 6), none⟩, 
    ⟨some 8, .move false (.t 1), none⟩, 
    ⟨some 9, .len (.t 8), none⟩, 
    ⟨some 10, .bin .neq (.t 7) (.t 9), none⟩]) (
  .cond (.t 10) (.seq (.region [
    ⟨some 4, .move false (.c (.bool false)), none⟩]) (
  .ret)) (.skip))) (
  .seq (.seq (.region [
    ⟨some 11, .move false (.t 0), none⟩, 
    ⟨some 12, .len (.t 11), none⟩, 
    ⟨some 13, .move false (.c (.int .i64 0)), none⟩]) (
  .block 0 (.loop (.seq (.region [
    ⟨some 14, .bin .lss (.t 13) (.t 12), none⟩]) (
  .seq (.cond (.t 14) (.skip) (.exit 0)) (
  .seq (.block 1 (.seq (.region [
    ⟨some 15, .move false (.t 13), none⟩, 
    ⟨some 5, .move false (.t 15), none⟩]) (
  .seq (.drawn [0, 1, 2, 3, 4, 5, 6, 7, 8] [0, 0, 3, 7, 0, 0, 48, 112, 255] [
    ⟨some 16, .move false (.t 0), none⟩, 
    ⟨some 17, .move false (.t 5), none⟩, 
    ⟨some 18, .iaddr 1 (.t 16) (.t 17), none⟩, 
    ⟨some 19, .load 0 false 1 (.t 18), none⟩, 
    ⟨some 20, .move false (.t 1), none⟩, 
    ⟨some 21, .move false (.t 5), none⟩, 
    ⟨some 22, .iaddr 1 (.t 20) (.t 21), none⟩, 
    ⟨some 23, .load 0 false 1 (.t 22), none⟩, 
    ⟨some 24, .bin .neq (.t 19) (.t 23), none⟩]) (
  .cond (.t 24) (.seq (.region [
    ⟨some 4, .move false (.c (.bool false)), none⟩]) (
  .ret)) (.skip))))) (
  .region [
    ⟨some 25, .bin .add (.t 13) (.c (.int .i64 1)), none⟩, 
    ⟨some 13, .move false (.t 25), none⟩]))))))) (
  .seq (.region [
    ⟨some 4, .move false (.c (.bool true)), none⟩]) (
  .ret))))
def R.slices_Equal_byte : List ARes := [.t 4]
set_option maxRecDepth 100000 in
theorem K.slices_Equal_byte : ckFun Try.prog Try.f65 C.slices_Equal_byte R.slices_Equal_byte = true := by kernel_rfl
end Go.Proofs.Ytpdajkbfemcdlaa
/- Annotated code of functions, checked against the program. -/
namespace Go.Proofs.Ytpdajkbfemcdlaa
open Go.Ge
/-- gantry/msg.Check -/
def C.msg_Check : ACode :=
  .seq (.region [
    ⟨some 1, .bx true (.t 0), none⟩, 
    ⟨some 2, .move false (.c (.int .i64 0)), none⟩]) (
  .seq (.block 0 (.seq (.region [
    ⟨some 4, .faddr 0 (.t 1), none⟩, 
    ⟨some 5, .load 2 false 1 (.t 4), none⟩, 
    ⟨some 6, .bin .lss (.t 5) (.c (.int .i64 0)), none⟩, 
    ⟨some 7, .move false (.t 6), none⟩, 
    ⟨some 8, .faddr 0 (.t 1), (some (7, false))⟩, 
    ⟨some 9, .load 2 false 1 (.t 8), (some (7, false))⟩, 
    ⟨some 10, .bin .gtr (.t 9) (.c (.int .i64 3)), (some (7, false))⟩, 
    ⟨some 11, .pick (.t 7) (.c (.bool true)) (.t 10), none⟩, 
    ⟨some 3, .move false (.t 11), none⟩]) (
  .cond (.t 3) (.seq (.region [
    ⟨some 2, .move false (.c (.int .i64 1)), none⟩]) (
  .ret)) (.seq (.region [
    ⟨some 13, .faddr 1 (.t 1), none⟩, 
    ⟨some 14, .load 2 false 1 (.t 13), none⟩, 
    ⟨some 15, .faddr 2 (.t 1), none⟩, 
    ⟨some 16, .load 2 false 1 (.t 15), none⟩, 
    ⟨some 17, .mn (.t 14) [(.t 16)], none⟩, 
    ⟨some 18, .bin .lss (.t 17) (.c (.int .i64 0)), none⟩, 
    ⟨some 19, .move false (.t 18), none⟩, 
    ⟨some 20, .faddr 1 (.t 1), (some (19, false))⟩, 
    ⟨some 21, .load 2 false 1 (.t 20), (some (19, false))⟩, 
    ⟨some 22, .faddr 2 (.t 1), (some (19, false))⟩, 
    ⟨some 23, .load 2 false 1 (.t 22), (some (19, false))⟩, 
    ⟨some 24, .mx (.t 21) [(.t 23)], (some (19, false))⟩, 
    ⟨some 25, .bin .gtr (.t 24) (.c (.int .i64 4)), (some (19, false))⟩, 
    ⟨some 26, .pick (.t 19) (.c (.bool true)) (.t 25), none⟩, 
    ⟨some 27, .move false (.t 26), none⟩, 
    ⟨some 28, .faddr 1 (.t 1), (some (27, false))⟩, 
    ⟨some 29, .load 2 false 1 (.t 28), (some (27, false))⟩, 
    ⟨some 30, .faddr 2 (.t 1), (some (27, false))⟩, 
    ⟨some 31, .load 2 false 1 (.t 30), (some (27, false))⟩, 
    ⟨some 32, .bin .eql (.t 29) (.t 31), (some (27, false))⟩, 
    ⟨some 33, .pick (.t 27) (.c (.bool true)) (.t 32), none⟩, 
    ⟨some 12, .move false (.t 33), none⟩]) (
  .cond (.t 12) (.seq (.region [
    ⟨some 2, .move false (.c (.int .i64 16)), none⟩]) (
  .ret)) (.seq (.region [
    ⟨some 35, .faddr 3 (.t 1), none⟩, 
    ⟨some 36, .load 2 false 1 (.t 35), none⟩, 
    ⟨some 37, .bin .lss (.t 36) (.c (.int .i64 0)), none⟩, 
    ⟨some 38, .move false (.t 37), none⟩, 
    ⟨some 39, .faddr 3 (.t 1), (some (38, false))⟩, 
    ⟨some 40, .load 2 false 1 (.t 39), (some (38, false))⟩, 
    ⟨some 41, .bin .gtr (.t 40) (.c (.int .i64 2147483647)), (some (38, false))⟩, 
    ⟨some 42, .pick (.t 38) (.c (.bool true)) (.t 41), none⟩, 
    ⟨some 34, .move false (.t 42), none⟩]) (
  .cond (.t 34) (.seq (.region [
    ⟨some 2, .move false (.c (.int .i64 2)), none⟩]) (
  .ret)) (.seq (.region [
    ⟨some 44, .faddr 0 (.t 1), none⟩, 
    ⟨some 45, .load 2 false 1 (.t 44), none⟩, 
    ⟨some 46, .bin .eql (.t 45) (.c (.int .i64 3)), none⟩, 
    ⟨some 47, .move false (.t 46), none⟩, 
    ⟨some 48, .faddr 5 (.t 1), (some (47, true))⟩, 
    ⟨some 49, .load 2 false 1 (.t 48), (some (47, true))⟩, 
    ⟨some 50, .len (.t 49), (some (47, true))⟩, 
    ⟨some 51, .bin .gtr (.t 50) (.c (.int .i64 0)), (some (47, true))⟩, 
    ⟨some 52, .pick (.t 47) (.t 51) (.c (.bool false)), none⟩, 
    ⟨some 43, .move false (.t 52), none⟩]) (
  .cond (.t 43) (.seq (.region [
    ⟨some 2, .move false (.c (.int .i64 3)), none⟩]) (
  .ret)) (.skip)))))))))) (
  .seq (.region [
    ⟨some 53, .faddr 5 (.t 1), none⟩, 
    ⟨some 54, .load 2 false 1 (.t 53), none⟩, 
    ⟨some 55, .call true F.grid_Check [(.t 54)], none⟩, 
    ⟨some 2, .move false (.t 55), none⟩]) (
  .ret)))
def R.msg_Check : List ARes := [.t 2]
set_option maxRecDepth 100000 in
theorem K.msg_Check : ckFun Try.prog Try.f74 C.msg_Check R.msg_Check = true := by kernel_rfl
/-- gantry/grid.Check -/
def C.grid_Check : ACode :=
  .seq (.region [
    ⟨some 2, .move false (.c (.int .i64 0)), none⟩]) (
  .seq (.seq (.region [
    ⟨some 5, .move false (.t 0), none⟩, 
    ⟨some 6, .len (.t 5), none⟩, 
    ⟨some 7, .bin .gtr (.t 6) (.c (.int .i64 400)), none⟩]) (
  .cond (.t 7) (.seq (.region [
    ⟨some 2, .move false (.c (.int .i64 2)), none⟩]) (
  .ret)) (.skip))) (
  .seq (.seq (.region [
    ⟨some 8, .move false (.t 0), none⟩, 
    ⟨some 9, .len (.t 8), none⟩, 
    ⟨some 10, .move false (.c (.int .i64 0)), none⟩]) (
  .block 0 (.loop (.seq (.region [
    ⟨some 11, .bin .lss (.t 10) (.t 9), none⟩]) (
  .seq (.cond (.t 11) (.skip) (.exit 0)) (
  .seq (.block 1 (.seq (.region [
    ⟨some 12, .move false (.t 10), none⟩, 
    ⟨some 13, .iaddr 2 (.t 8) (.t 10), none⟩, 
    ⟨some 14, .load 2 true 2 (.t 13), none⟩, 
    ⟨some 4, .alloc false [(.int .i64 0), (.int .i64 0)], none⟩, 
    ⟨some 3, .move false (.t 12), none⟩, 
    ⟨none, .store 2 (.t 4) (.t 14), none⟩]) (
  .seq (.seq (.region [
    ⟨some 15, .faddr 0 (.t 4), none⟩, 
    ⟨some 16, .load 2 false 1 (.t 15), none⟩, 
    ⟨some 17, .call true F.grid_on [(.t 16)], none⟩, 
    ⟨some 18, .un .not (.t 17), none⟩, 
    ⟨some 19, .move false (.t 18), none⟩, 
    ⟨some 20, .faddr 1 (.t 4), (some (19, false))⟩, 
    ⟨some 21, .load 2 false 1 (.t 20), (some (19, false))⟩, 
    ⟨some 22, .call true F.grid_on [(.t 21)], (some (19, false))⟩, 
    ⟨some 23, .un .not (.t 22), (some (19, false))⟩, 
    ⟨some 24, .pick (.t 19) (.c (.bool true)) (.t 23), none⟩]) (
  .cond (.t 24) (.seq (.region [
    ⟨some 2, .move false (.c (.int .i64 17)), none⟩]) (
  .ret)) (.skip))) (
  .seq (.drawn [0, 1, 2, 3, 4, 5, 6, 7, 8, 9, 10, 11] [0, 1, 3, 7, 7, 23, 63, 127, 7, 511, 1023, 2047] [
    ⟨some 25, .move false (.t 3), none⟩, 
    ⟨some 26, .bin .gtr (.t 25) (.c (.int .i64 0)), none⟩, 
    ⟨some 27, .move false (.t 26), none⟩, 
    ⟨some 28, .move false (.t 0), (some (27, true))⟩, 
    ⟨some 29, .move false (.t 3), (some (27, true))⟩, 
    ⟨some 30, .bin .sub (.t 29) (.c (.int .i64 1)), (some (27, true))⟩, 
    ⟨some 31, .iaddr 2 (.t 28) (.t 30), (some (27, true))⟩, 
    ⟨some 32, .load 0 true 2 (.t 31), (some (27, true))⟩, 
    ⟨some 33, .load 1 true 2 (.t 4), (some (27, true))⟩, 
    ⟨some 34, .call false F.grid_order [(.t 32), (.t 33)], (some (27, true))⟩, 
    ⟨some 35, .bin .geq (.t 34) (.c (.int .i64 0)), (some (27, true))⟩, 
    ⟨some 36, .pick (.t 27) (.t 35) (.c (.bool false)), none⟩]) (
  .cond (.t 36) (.seq (.region [
    ⟨some 2, .move false (.c (.int .i64 9)), none⟩]) (
  .ret)) (.skip)))))) (
  .region [
    ⟨some 37, .bin .add (.t 10) (.c (.int .i64 1)), none⟩, 
    ⟨some 10, .move false (.t 37), none⟩]))))))) (
  .seq (.region [
    ⟨some 2, .move false (.c (.int .i64 0)), none⟩]) (
  .ret))))
def R.grid_Check : List ARes := [.t 2]
set_option maxRecDepth 100000 in
theorem K.grid_Check : ckFun Try.prog Try.f158 C.grid_Check R.grid_Check = true := by kernel_rfl
/-- gantry/grid.on -/
def C.grid_on : ACode :=
  .seq (.region [
    ⟨some 2, .move false (.c (.bool false)), none⟩]) (
  .seq (.region [
    ⟨some 3, .move false (.t 0), none⟩, 
    ⟨some 4, .bin .geq (.t 3) (.c (.int .i64 (-64))), none⟩, 
    ⟨some 5, .move false (.t 4), none⟩, 
    ⟨some 6, .move false (.t 0), (some (5, true))⟩, 
    ⟨some 7, .bin .lss (.t 6) (.c (.int .i64 64)), (some (5, true))⟩, 
    ⟨some 8, .pick (.t 5) (.t 7) (.c (.bool false)), none⟩, 
    ⟨some 2, .move false (.t 8), none⟩]) (
  .ret))
def R.grid_on : List ARes := [.t 2]
set_option maxRecDepth 100000 in
theorem K.grid_on : ckFun Try.prog Try.f197 C.grid_on R.grid_on = true := by kernel_rfl
/-- gantry/grid.order -/
def C.grid_order : ACode :=
  .seq (.region [
    ⟨some 2, .bx false (.t 0), none⟩, 
    ⟨some 3, .bx false (.t 1), none⟩, 
    ⟨some 4, .move false (.c (.int .i64 0)), none⟩]) (
  .seq (.seq (.region [
    ⟨some 6, .faddr 1 (.t 2), none⟩, 
    ⟨some 7, .load 2 false 1 (.t 6), none⟩, 
    ⟨some 8, .faddr 1 (.t 3), none⟩, 
    ⟨some 9, .load 2 false 1 (.t 8), none⟩, 
    ⟨some 10, .call true F.cmp_Compare_int [(.t 7), (.t 9)], none⟩, 
    ⟨some 5, .move false (.t 10), none⟩]) (
  .seq (.region [
    ⟨some 11, .move false (.t 5), none⟩, 
    ⟨some 12, .bin .neq (.t 11) (.c (.int .i64 0)), none⟩]) (
  .cond (.t 12) (.seq (.region [
    ⟨some 13, .move false (.t 5), none⟩, 
    ⟨some 4, .move false (.t 13), none⟩]) (
  .ret)) (.skip)))) (
  .seq (.region [
    ⟨some 14, .faddr 0 (.t 2), none⟩, 
    ⟨some 15, .load 2 false 1 (.t 14), none⟩, 
    ⟨some 16, .faddr 0 (.t 3), none⟩, 
    ⟨some 17, .load 2 false 1 (.t 16), none⟩, 
    ⟨some 18, .call true F.cmp_Compare_int [(.t 15), (.t 17)], none⟩, 
    ⟨some 4, .move false (.t 18), none⟩]) (
  .ret)))
def R.grid_order : List ARes := [.t 4]
set_option maxRecDepth 100000 in
theorem K.grid_order : ckFun Try.prog Try.f198 C.grid_order R.grid_order = true := by kernel_rfl
/-- cmp.Compare[int] -/
def C.cmp_Compare_int : ACode :=
  .seq (.region [
    ⟨some 4, .move false (.c (.int .i64 0)), none⟩]) (
  .seq (.region [
    ⟨some 7, .move false (.t 0), none⟩, 
    ⟨some 8, .call true F.cmp_isNaN_int [(.t 7)], none⟩, 
    ⟨some 5, .move false (.t 8), none⟩]) (
  .seq (.region [
    ⟨some 9, .move false (.t 1), none⟩, 
    ⟨some 10, .call true F.cmp_isNaN_int [(.t 9)], none⟩, 
    ⟨some 6, .move false (.t 10), none⟩]) (
  .seq (.seq (.region [
    ⟨some 11, .move false (.t 5), none⟩]) (
  .cond (.t 11) (.seq (.seq (.region [
    ⟨some 12, .move false (.t 6), none⟩]) (
  .cond (.t 12) (.seq (.region [
    ⟨some 4, .move false (.c (.int .i64 0)), none⟩]) (
  .ret)) (.skip))) (
  .seq (.region [
    ⟨some 4, .move false (.c (.int .i64 (-1))), none⟩]) (
  .ret))) (.skip))) (
  .seq (.seq (.region [
    ⟨some 13, .move false (.t 6), none⟩]) (
  .cond (.t 13) (.seq (.region [
    ⟨some 4, .move false (.c (.int .i64 1)), none⟩]) (
  .ret)) (.skip))) (
  .seq (.seq (.region [
    ⟨some 14, .move false (.t 0), none⟩, 
    ⟨some 15, .move false (.t 1), none⟩, 
    ⟨some 16, .bin .lss (.t 14) (.t 15), none⟩]) (
  .cond (.t 16) (.seq (.region [
    ⟨some 4, .move false (.c (.int .i64 (-1))), none⟩]) (
  .ret)) (.skip))) (
  .seq (.seq (.region [
    ⟨some 17, .move false (.t 0), none⟩, 
    ⟨some 18, .move false (.t 1), none⟩, 
    ⟨some 19, .bin .gtr (.t 17) (.t 18), none⟩]) (
  .cond (.t 19) (.seq (.region [
    ⟨some 4, .move false (.c (.int .i64 1)), none⟩]) (
  .ret)) (.skip))) (
  .seq (.region [
    ⟨some 4, .move false (.c (.int .i64 0)), none⟩]) (
  .ret))))))))
def R.cmp_Compare_int : List ARes := [.t 4]
set_option maxRecDepth 100000 in
theorem K.cmp_Compare_int : ckFun Try.prog Try.f215 C.cmp_Compare_int R.cmp_Compare_int = true := by kernel_rfl
/-- cmp.isNaN[int] -/
def C.cmp_isNaN_int : ACode :=
  .seq (.region [
    ⟨some 2, .move false (.c (.bool false)), none⟩]) (
  .seq (.region [
    ⟨some 3, .move false (.t 0), none⟩, 
    ⟨some 4, .move false (.t 0), none⟩, 
    ⟨some 5, .bin .neq (.t 3) (.t 4), none⟩, 
    ⟨some 2, .move false (.t 5), none⟩]) (
  .ret))
def R.cmp_isNaN_int : List ARes := [.t 2]
set_option maxRecDepth 100000 in
theorem K.cmp_isNaN_int : ckFun Try.prog Try.f230 C.cmp_isNaN_int R.cmp_isNaN_int = true := by kernel_rfl
end Go.Proofs.Ytpdajkbfemcdlaa
/- Contracts: cells and messages are checked. -/
set_option linter.unusedSimpArgs false
set_option linter.unusedVariables false
set_option maxRecDepth 10000
namespace Go.Proofs.Ytpdajkbfemcdlaa
open Go.Ge
def cmpI (a b : Int) : Int := if a < b then -1 else if a > b then 1 else 0
def orderC (a b : Cell) : Int := if cmpI a.Y b.Y ≠ 0 then cmpI a.Y b.Y else cmpI a.X b.X
def cellLt (a b : Cell) : Prop := a.Y < b.Y ∨ a.Y = b.Y ∧ a.X < b.X
instance (a b : Cell) : Decidable (cellLt a b) := by unfold cellLt; exact inferInstance
theorem orderC_lt (a b : Cell) : orderC a b ≥ 0 ↔ ¬cellLt a b := by
  unfold orderC cmpI cellLt
  split <;> (repeat split) <;> (repeat split at *) <;> omega
def onG (n : Int) : Prop := -64 ≤ n ∧ n < 64
instance (n : Int) : Decidable (onG n) := by unfold onG; exact inferInstance
def cellsF : Option Cell → List Cell → Int
  | _, [] => 0
  | p, c :: r => if ¬onG c.X ∨ ¬onG c.Y then 17 else if (∃ q ∈ p, ¬cellLt q c) then 9 else cellsF (some c) r
/-- The fault of a set of cells. -/
def cellsFault (l : List Cell) : Int := if l.length > 400 then 2 else cellsF none l
def prevC (l : List Cell) (i : Nat) : Option Cell := if i = 0 then none else l[i - 1]?
theorem cellsF_step {l : List Cell} {i : Nat} (h : i < l.length) : cellsF (prevC l i) (l.drop i) = if ¬onG l[i].X ∨ ¬onG l[i].Y then 17 else if (∃ q ∈ prevC l i, ¬cellLt q l[i]) then 9 else cellsF (prevC l (i + 1)) (l.drop (i + 1)) := by
  rw [List.drop_eq_getElem_cons h, cellsF]
  have : prevC l (i + 1) = some l[i] := by unfold prevC; simp [h]
  rw [this]
def msgFault (m : Msg) : Int :=
  if m.Kind < 0 ∨ m.Kind > 3 then 1 else if m.From < 0 ∨ m.From > 4 ∨ m.To < 0 ∨ m.To > 4 ∨ m.From = m.To then 16
  else if m.Seq < 0 ∨ m.Seq > 2147483647 then 2 else if m.Kind = 3 ∧ m.Cells.length ≠ 0 then 3 else 0
/-- The fault of a message. -/
def checkF (m : Msg) : Int := if msgFault m ≠ 0 then msgFault m else cellsFault m.Cells
theorem isNaN_ok (a : Int) (h : List HObj) : ACalls Try.prog F.cmp_isNaN_int [.int .i64 a] h (fun r h' => r = .bool false ∧ h' = h) := by
  refine ACalls.of_aw Try.func230 K.cmp_isNaN_int (by simp [Try.f230]) ?_
  generalize hQ : retQ R.cmp_isNaN_int _ = Q
  simp (disch := first | assumption | omega) only [C.cmp_isNaN_int, go_sem, ↓reduceIte, Nat.reduceEqDiff, reduceCtorEq, Nat.reduceAdd, Nat.reduceLeDiff, Nat.reduceLT, wrapU32, reduceIte, Int.natCast_nonneg, Int.ofNat_lt, Int.ofNat_le, cond_true, cond_false, Int.reduceBEq, Int.reduceBNe, Int.reduceLT, Int.reduceLE, Int.reduceAdd, Int.reduceSub, Int.reduceMul, Int.reduceNeg, Int.reduceEq, Int.reduceNe, Nat.reduceMul, Nat.reduceSub, decide_true, decide_false, not_true_eq_false, not_false_eq_true, Bool.true_and, Bool.false_and, Bool.and_false, aggEq, scEq, hasSh, alS, List.filterMap_nil, int_beq, int_bne, eq_self]
  subst hQ
  simp (disch := first | assumption | omega) only [R.cmp_isNaN_int, go_sem, ↓reduceIte, Nat.reduceEqDiff, reduceCtorEq, Nat.reduceAdd, Nat.reduceLeDiff, Nat.reduceLT, wrapU32, reduceIte, Int.natCast_nonneg, Int.ofNat_lt, Int.ofNat_le, cond_true, cond_false, Int.reduceBEq, Int.reduceBNe, Int.reduceLT, Int.reduceLE, Int.reduceAdd, Int.reduceSub, Int.reduceMul, Int.reduceNeg, Int.reduceEq, Int.reduceNe, Nat.reduceMul, Nat.reduceSub, decide_true, decide_false, not_true_eq_false, not_false_eq_true, Bool.true_and, Bool.false_and, Bool.and_false, aggEq, scEq, hasSh, alS, List.filterMap_nil, int_beq, int_bne, eq_self]
theorem Compare_ok (a b : Int) (h : List HObj) : ACalls Try.prog F.cmp_Compare_int [.int .i64 a, .int .i64 b] h (fun r h' => r = .int .i64 (cmpI a b) ∧ h' = h) := by
  refine ACalls.of_aw Try.func215 K.cmp_Compare_int (by simp [Try.f215]) ?_
  generalize hQ : retQ R.cmp_Compare_int _ = Q
  simp (disch := first | assumption | omega) only [C.cmp_Compare_int, go_sem, ↓reduceIte, Nat.reduceEqDiff, reduceCtorEq, Nat.reduceAdd, Nat.reduceLeDiff, Nat.reduceLT, wrapU32, reduceIte, Int.natCast_nonneg, Int.ofNat_lt, Int.ofNat_le, cond_true, cond_false, Int.reduceBEq, Int.reduceBNe, Int.reduceLT, Int.reduceLE, Int.reduceAdd, Int.reduceSub, Int.reduceMul, Int.reduceNeg, Int.reduceEq, Int.reduceNe, Nat.reduceMul, Nat.reduceSub, decide_true, decide_false, not_true_eq_false, not_false_eq_true, Bool.true_and, Bool.false_and, Bool.and_false, aggEq, scEq, hasSh, alS, List.filterMap_nil, int_beq, int_bne, eq_self]
  refine callG_ok (isNaN_ok a _) (by simp (disch := first | assumption | omega) only [go_sem, ↓reduceIte, Nat.reduceEqDiff, reduceCtorEq, Nat.reduceAdd, Nat.reduceLeDiff, Nat.reduceLT, wrapU32, reduceIte, Int.natCast_nonneg, Int.ofNat_lt, Int.ofNat_le, cond_true, cond_false, Int.reduceBEq, Int.reduceBNe, Int.reduceLT, Int.reduceLE, Int.reduceAdd, Int.reduceSub, Int.reduceMul, Int.reduceNeg, Int.reduceEq, Int.reduceNe, Nat.reduceMul, Nat.reduceSub, decide_true, decide_false, not_true_eq_false, not_false_eq_true, Bool.true_and, Bool.false_and, Bool.and_false, aggEq, scEq, hasSh, alS, List.filterMap_nil, int_beq, int_bne, eq_self]) ?_
  rintro _ _ ⟨rfl, hhh⟩
  try rw [hhh]
  clear hhh
  simp (disch := first | assumption | omega) only [go_sem, ↓reduceIte, Nat.reduceEqDiff, reduceCtorEq, Nat.reduceAdd, Nat.reduceLeDiff, Nat.reduceLT, wrapU32, reduceIte, Int.natCast_nonneg, Int.ofNat_lt, Int.ofNat_le, cond_true, cond_false, Int.reduceBEq, Int.reduceBNe, Int.reduceLT, Int.reduceLE, Int.reduceAdd, Int.reduceSub, Int.reduceMul, Int.reduceNeg, Int.reduceEq, Int.reduceNe, Nat.reduceMul, Nat.reduceSub, decide_true, decide_false, not_true_eq_false, not_false_eq_true, Bool.true_and, Bool.false_and, Bool.and_false, aggEq, scEq, hasSh, alS, List.filterMap_nil, int_beq, int_bne, eq_self]
  refine callG_ok (isNaN_ok b _) (by simp (disch := first | assumption | omega) only [go_sem, ↓reduceIte, Nat.reduceEqDiff, reduceCtorEq, Nat.reduceAdd, Nat.reduceLeDiff, Nat.reduceLT, wrapU32, reduceIte, Int.natCast_nonneg, Int.ofNat_lt, Int.ofNat_le, cond_true, cond_false, Int.reduceBEq, Int.reduceBNe, Int.reduceLT, Int.reduceLE, Int.reduceAdd, Int.reduceSub, Int.reduceMul, Int.reduceNeg, Int.reduceEq, Int.reduceNe, Nat.reduceMul, Nat.reduceSub, decide_true, decide_false, not_true_eq_false, not_false_eq_true, Bool.true_and, Bool.false_and, Bool.and_false, aggEq, scEq, hasSh, alS, List.filterMap_nil, int_beq, int_bne, eq_self]) ?_
  rintro _ _ ⟨rfl, hhh⟩
  try rw [hhh]
  clear hhh
  simp (disch := first | assumption | omega) only [go_sem, ↓reduceIte, Nat.reduceEqDiff, reduceCtorEq, Nat.reduceAdd, Nat.reduceLeDiff, Nat.reduceLT, wrapU32, reduceIte, Int.natCast_nonneg, Int.ofNat_lt, Int.ofNat_le, cond_true, cond_false, Int.reduceBEq, Int.reduceBNe, Int.reduceLT, Int.reduceLE, Int.reduceAdd, Int.reduceSub, Int.reduceMul, Int.reduceNeg, Int.reduceEq, Int.reduceNe, Nat.reduceMul, Nat.reduceSub, decide_true, decide_false, not_true_eq_false, not_false_eq_true, Bool.true_and, Bool.false_and, Bool.and_false, aggEq, scEq, hasSh, alS, List.filterMap_nil, int_beq, int_bne, eq_self]
  refine condG_if (fun hlt => ?_) fun hge => ?_
  · simp (disch := first | assumption | omega) only [go_sem, ↓reduceIte, Nat.reduceEqDiff, reduceCtorEq, Nat.reduceAdd, Nat.reduceLeDiff, Nat.reduceLT, wrapU32, reduceIte, Int.natCast_nonneg, Int.ofNat_lt, Int.ofNat_le, cond_true, cond_false, Int.reduceBEq, Int.reduceBNe, Int.reduceLT, Int.reduceLE, Int.reduceAdd, Int.reduceSub, Int.reduceMul, Int.reduceNeg, Int.reduceEq, Int.reduceNe, Nat.reduceMul, Nat.reduceSub, decide_true, decide_false, not_true_eq_false, not_false_eq_true, Bool.true_and, Bool.false_and, Bool.and_false, aggEq, scEq, hasSh, alS, List.filterMap_nil, int_beq, int_bne, eq_self]
    subst hQ
    simp (disch := first | assumption | omega) only [R.cmp_Compare_int, go_sem, ↓reduceIte, Nat.reduceEqDiff, reduceCtorEq, Nat.reduceAdd, Nat.reduceLeDiff, Nat.reduceLT, wrapU32, reduceIte, Int.natCast_nonneg, Int.ofNat_lt, Int.ofNat_le, cond_true, cond_false, Int.reduceBEq, Int.reduceBNe, Int.reduceLT, Int.reduceLE, Int.reduceAdd, Int.reduceSub, Int.reduceMul, Int.reduceNeg, Int.reduceEq, Int.reduceNe, Nat.reduceMul, Nat.reduceSub, decide_true, decide_false, not_true_eq_false, not_false_eq_true, Bool.true_and, Bool.false_and, Bool.and_false, aggEq, scEq, hasSh, alS, List.filterMap_nil, int_beq, int_bne, eq_self]
    rw [cmpI, if_pos hlt]
  · simp (disch := first | assumption | omega) only [go_sem, ↓reduceIte, Nat.reduceEqDiff, reduceCtorEq, Nat.reduceAdd, Nat.reduceLeDiff, Nat.reduceLT, wrapU32, reduceIte, Int.natCast_nonneg, Int.ofNat_lt, Int.ofNat_le, cond_true, cond_false, Int.reduceBEq, Int.reduceBNe, Int.reduceLT, Int.reduceLE, Int.reduceAdd, Int.reduceSub, Int.reduceMul, Int.reduceNeg, Int.reduceEq, Int.reduceNe, Nat.reduceMul, Nat.reduceSub, decide_true, decide_false, not_true_eq_false, not_false_eq_true, Bool.true_and, Bool.false_and, Bool.and_false, aggEq, scEq, hasSh, alS, List.filterMap_nil, int_beq, int_bne, eq_self]
    refine condG_if (fun hlt2 => ?_) fun hge2 => ?_
    · simp (disch := first | assumption | omega) only [go_sem, ↓reduceIte, Nat.reduceEqDiff, reduceCtorEq, Nat.reduceAdd, Nat.reduceLeDiff, Nat.reduceLT, wrapU32, reduceIte, Int.natCast_nonneg, Int.ofNat_lt, Int.ofNat_le, cond_true, cond_false, Int.reduceBEq, Int.reduceBNe, Int.reduceLT, Int.reduceLE, Int.reduceAdd, Int.reduceSub, Int.reduceMul, Int.reduceNeg, Int.reduceEq, Int.reduceNe, Nat.reduceMul, Nat.reduceSub, decide_true, decide_false, not_true_eq_false, not_false_eq_true, Bool.true_and, Bool.false_and, Bool.and_false, aggEq, scEq, hasSh, alS, List.filterMap_nil, int_beq, int_bne, eq_self]
      subst hQ
      simp (disch := first | assumption | omega) only [R.cmp_Compare_int, go_sem, ↓reduceIte, Nat.reduceEqDiff, reduceCtorEq, Nat.reduceAdd, Nat.reduceLeDiff, Nat.reduceLT, wrapU32, reduceIte, Int.natCast_nonneg, Int.ofNat_lt, Int.ofNat_le, cond_true, cond_false, Int.reduceBEq, Int.reduceBNe, Int.reduceLT, Int.reduceLE, Int.reduceAdd, Int.reduceSub, Int.reduceMul, Int.reduceNeg, Int.reduceEq, Int.reduceNe, Nat.reduceMul, Nat.reduceSub, decide_true, decide_false, not_true_eq_false, not_false_eq_true, Bool.true_and, Bool.false_and, Bool.and_false, aggEq, scEq, hasSh, alS, List.filterMap_nil, int_beq, int_bne, eq_self]
      rw [cmpI, if_neg hge, if_pos hlt2]
    · simp (disch := first | assumption | omega) only [go_sem, ↓reduceIte, Nat.reduceEqDiff, reduceCtorEq, Nat.reduceAdd, Nat.reduceLeDiff, Nat.reduceLT, wrapU32, reduceIte, Int.natCast_nonneg, Int.ofNat_lt, Int.ofNat_le, cond_true, cond_false, Int.reduceBEq, Int.reduceBNe, Int.reduceLT, Int.reduceLE, Int.reduceAdd, Int.reduceSub, Int.reduceMul, Int.reduceNeg, Int.reduceEq, Int.reduceNe, Nat.reduceMul, Nat.reduceSub, decide_true, decide_false, not_true_eq_false, not_false_eq_true, Bool.true_and, Bool.false_and, Bool.and_false, aggEq, scEq, hasSh, alS, List.filterMap_nil, int_beq, int_bne, eq_self]
      subst hQ
      simp (disch := first | assumption | omega) only [R.cmp_Compare_int, go_sem, ↓reduceIte, Nat.reduceEqDiff, reduceCtorEq, Nat.reduceAdd, Nat.reduceLeDiff, Nat.reduceLT, wrapU32, reduceIte, Int.natCast_nonneg, Int.ofNat_lt, Int.ofNat_le, cond_true, cond_false, Int.reduceBEq, Int.reduceBNe, Int.reduceLT, Int.reduceLE, Int.reduceAdd, Int.reduceSub, Int.reduceMul, Int.reduceNeg, Int.reduceEq, Int.reduceNe, Nat.reduceMul, Nat.reduceSub, decide_true, decide_false, not_true_eq_false, not_false_eq_true, Bool.true_and, Bool.false_and, Bool.and_false, aggEq, scEq, hasSh, alS, List.filterMap_nil, int_beq, int_bne, eq_self]
      rw [cmpI, if_neg hge, if_neg hge2]
theorem order_ok (a b : Cell) (h : List HObj) : ACalls Try.prog F.grid_order [cellA a, cellA b] h (fun r h' => r = .int .i64 (orderC a b) ∧ h' = h) := by
  refine ACalls.of_aw Try.func198 K.grid_order (by simp [Try.f198]) ?_
  generalize hQ : retQ R.grid_order _ = Q
  simp (disch := first | assumption | omega) only [C.grid_order, go_sem, ↓reduceIte, Nat.reduceEqDiff, reduceCtorEq, Nat.reduceAdd, Nat.reduceLeDiff, Nat.reduceLT, wrapU32, reduceIte, Int.natCast_nonneg, Int.ofNat_lt, Int.ofNat_le, cond_true, cond_false, Int.reduceBEq, Int.reduceBNe, Int.reduceLT, Int.reduceLE, Int.reduceAdd, Int.reduceSub, Int.reduceMul, Int.reduceNeg, Int.reduceEq, Int.reduceNe, Nat.reduceMul, Nat.reduceSub, decide_true, decide_false, not_true_eq_false, not_false_eq_true, Bool.true_and, Bool.false_and, Bool.and_false, aggEq, scEq, hasSh, alS, List.filterMap_nil, int_beq, int_bne, eq_self]
  simp (disch := first | assumption | omega) only [cellA, go_sem, ↓reduceIte, Nat.reduceEqDiff, reduceCtorEq, Nat.reduceAdd, Nat.reduceLeDiff, Nat.reduceLT, wrapU32, reduceIte, Int.natCast_nonneg, Int.ofNat_lt, Int.ofNat_le, cond_true, cond_false, Int.reduceBEq, Int.reduceBNe, Int.reduceLT, Int.reduceLE, Int.reduceAdd, Int.reduceSub, Int.reduceMul, Int.reduceNeg, Int.reduceEq, Int.reduceNe, Nat.reduceMul, Nat.reduceSub, decide_true, decide_false, not_true_eq_false, not_false_eq_true, Bool.true_and, Bool.false_and, Bool.and_false, aggEq, scEq, hasSh, alS, List.filterMap_nil, int_beq, int_bne, eq_self]
  refine callG_ok (Compare_ok a.Y b.Y _) (by simp (disch := first | assumption | omega) only [go_sem, ↓reduceIte, Nat.reduceEqDiff, reduceCtorEq, Nat.reduceAdd, Nat.reduceLeDiff, Nat.reduceLT, wrapU32, reduceIte, Int.natCast_nonneg, Int.ofNat_lt, Int.ofNat_le, cond_true, cond_false, Int.reduceBEq, Int.reduceBNe, Int.reduceLT, Int.reduceLE, Int.reduceAdd, Int.reduceSub, Int.reduceMul, Int.reduceNeg, Int.reduceEq, Int.reduceNe, Nat.reduceMul, Nat.reduceSub, decide_true, decide_false, not_true_eq_false, not_false_eq_true, Bool.true_and, Bool.false_and, Bool.and_false, aggEq, scEq, hasSh, alS, List.filterMap_nil, int_beq, int_bne, eq_self]) ?_
  rintro _ _ ⟨rfl, hhh⟩
  try rw [hhh]
  clear hhh
  simp (disch := first | assumption | omega) only [go_sem, ↓reduceIte, Nat.reduceEqDiff, reduceCtorEq, Nat.reduceAdd, Nat.reduceLeDiff, Nat.reduceLT, wrapU32, reduceIte, Int.natCast_nonneg, Int.ofNat_lt, Int.ofNat_le, cond_true, cond_false, Int.reduceBEq, Int.reduceBNe, Int.reduceLT, Int.reduceLE, Int.reduceAdd, Int.reduceSub, Int.reduceMul, Int.reduceNeg, Int.reduceEq, Int.reduceNe, Nat.reduceMul, Nat.reduceSub, decide_true, decide_false, not_true_eq_false, not_false_eq_true, Bool.true_and, Bool.false_and, Bool.and_false, aggEq, scEq, hasSh, alS, List.filterMap_nil, int_beq, int_bne, eq_self]
  refine condG_ifn (fun hb => ?_) fun hb => ?_
  · simp (disch := first | assumption | omega) only [go_sem, ↓reduceIte, Nat.reduceEqDiff, reduceCtorEq, Nat.reduceAdd, Nat.reduceLeDiff, Nat.reduceLT, wrapU32, reduceIte, Int.natCast_nonneg, Int.ofNat_lt, Int.ofNat_le, cond_true, cond_false, Int.reduceBEq, Int.reduceBNe, Int.reduceLT, Int.reduceLE, Int.reduceAdd, Int.reduceSub, Int.reduceMul, Int.reduceNeg, Int.reduceEq, Int.reduceNe, Nat.reduceMul, Nat.reduceSub, decide_true, decide_false, not_true_eq_false, not_false_eq_true, Bool.true_and, Bool.false_and, Bool.and_false, aggEq, scEq, hasSh, alS, List.filterMap_nil, int_beq, int_bne, eq_self]
    subst hQ
    simp (disch := first | assumption | omega) only [R.grid_order, go_sem, ↓reduceIte, Nat.reduceEqDiff, reduceCtorEq, Nat.reduceAdd, Nat.reduceLeDiff, Nat.reduceLT, wrapU32, reduceIte, Int.natCast_nonneg, Int.ofNat_lt, Int.ofNat_le, cond_true, cond_false, Int.reduceBEq, Int.reduceBNe, Int.reduceLT, Int.reduceLE, Int.reduceAdd, Int.reduceSub, Int.reduceMul, Int.reduceNeg, Int.reduceEq, Int.reduceNe, Nat.reduceMul, Nat.reduceSub, decide_true, decide_false, not_true_eq_false, not_false_eq_true, Bool.true_and, Bool.false_and, Bool.and_false, aggEq, scEq, hasSh, alS, List.filterMap_nil, int_beq, int_bne, eq_self]
    rw [orderC, if_pos hb]
  · simp (disch := first | assumption | omega) only [go_sem, ↓reduceIte, Nat.reduceEqDiff, reduceCtorEq, Nat.reduceAdd, Nat.reduceLeDiff, Nat.reduceLT, wrapU32, reduceIte, Int.natCast_nonneg, Int.ofNat_lt, Int.ofNat_le, cond_true, cond_false, Int.reduceBEq, Int.reduceBNe, Int.reduceLT, Int.reduceLE, Int.reduceAdd, Int.reduceSub, Int.reduceMul, Int.reduceNeg, Int.reduceEq, Int.reduceNe, Nat.reduceMul, Nat.reduceSub, decide_true, decide_false, not_true_eq_false, not_false_eq_true, Bool.true_and, Bool.false_and, Bool.and_false, aggEq, scEq, hasSh, alS, List.filterMap_nil, int_beq, int_bne, eq_self]
    refine callG_ok (Compare_ok a.X b.X _) (by simp (disch := first | assumption | omega) only [go_sem, ↓reduceIte, Nat.reduceEqDiff, reduceCtorEq, Nat.reduceAdd, Nat.reduceLeDiff, Nat.reduceLT, wrapU32, reduceIte, Int.natCast_nonneg, Int.ofNat_lt, Int.ofNat_le, cond_true, cond_false, Int.reduceBEq, Int.reduceBNe, Int.reduceLT, Int.reduceLE, Int.reduceAdd, Int.reduceSub, Int.reduceMul, Int.reduceNeg, Int.reduceEq, Int.reduceNe, Nat.reduceMul, Nat.reduceSub, decide_true, decide_false, not_true_eq_false, not_false_eq_true, Bool.true_and, Bool.false_and, Bool.and_false, aggEq, scEq, hasSh, alS, List.filterMap_nil, int_beq, int_bne, eq_self]) ?_
    rintro _ _ ⟨rfl, hhh⟩
    try rw [hhh]
    clear hhh
    simp (disch := first | assumption | omega) only [go_sem, ↓reduceIte, Nat.reduceEqDiff, reduceCtorEq, Nat.reduceAdd, Nat.reduceLeDiff, Nat.reduceLT, wrapU32, reduceIte, Int.natCast_nonneg, Int.ofNat_lt, Int.ofNat_le, cond_true, cond_false, Int.reduceBEq, Int.reduceBNe, Int.reduceLT, Int.reduceLE, Int.reduceAdd, Int.reduceSub, Int.reduceMul, Int.reduceNeg, Int.reduceEq, Int.reduceNe, Nat.reduceMul, Nat.reduceSub, decide_true, decide_false, not_true_eq_false, not_false_eq_true, Bool.true_and, Bool.false_and, Bool.and_false, aggEq, scEq, hasSh, alS, List.filterMap_nil, int_beq, int_bne, eq_self]
    subst hQ
    simp (disch := first | assumption | omega) only [R.grid_order, go_sem, ↓reduceIte, Nat.reduceEqDiff, reduceCtorEq, Nat.reduceAdd, Nat.reduceLeDiff, Nat.reduceLT, wrapU32, reduceIte, Int.natCast_nonneg, Int.ofNat_lt, Int.ofNat_le, cond_true, cond_false, Int.reduceBEq, Int.reduceBNe, Int.reduceLT, Int.reduceLE, Int.reduceAdd, Int.reduceSub, Int.reduceMul, Int.reduceNeg, Int.reduceEq, Int.reduceNe, Nat.reduceMul, Nat.reduceSub, decide_true, decide_false, not_true_eq_false, not_false_eq_true, Bool.true_and, Bool.false_and, Bool.and_false, aggEq, scEq, hasSh, alS, List.filterMap_nil, int_beq, int_bne, eq_self]
    rw [orderC, if_neg (by simp [hb])]
theorem on_ok (n : Int) (h : List HObj) : ACalls Try.prog F.grid_on [.int .i64 n] h (fun r h' => r = .bool (decide (onG n)) ∧ h' = h) := by
  refine ACalls.of_aw Try.func197 K.grid_on (by simp [Try.f197]) ?_
  generalize hQ : retQ R.grid_on _ = Q
  simp (disch := first | assumption | omega) only [C.grid_on, go_sem, ↓reduceIte, Nat.reduceEqDiff, reduceCtorEq, Nat.reduceAdd, Nat.reduceLeDiff, Nat.reduceLT, wrapU32, reduceIte, Int.natCast_nonneg, Int.ofNat_lt, Int.ofNat_le, cond_true, cond_false, Int.reduceBEq, Int.reduceBNe, Int.reduceLT, Int.reduceLE, Int.reduceAdd, Int.reduceSub, Int.reduceMul, Int.reduceNeg, Int.reduceEq, Int.reduceNe, Nat.reduceMul, Nat.reduceSub, decide_true, decide_false, not_true_eq_false, not_false_eq_true, Bool.true_and, Bool.false_and, Bool.and_false, aggEq, scEq, hasSh, alS, List.filterMap_nil, int_beq, int_bne, eq_self]
  refine aopsG_if (fun h1 => ?_) fun h1 => ?_
  · simp (disch := first | assumption | omega) only [h1, go_sem, ↓reduceIte, Nat.reduceEqDiff, reduceCtorEq, Nat.reduceAdd, Nat.reduceLeDiff, Nat.reduceLT, wrapU32, reduceIte, Int.natCast_nonneg, Int.ofNat_lt, Int.ofNat_le, cond_true, cond_false, Int.reduceBEq, Int.reduceBNe, Int.reduceLT, Int.reduceLE, Int.reduceAdd, Int.reduceSub, Int.reduceMul, Int.reduceNeg, Int.reduceEq, Int.reduceNe, Nat.reduceMul, Nat.reduceSub, decide_true, decide_false, not_true_eq_false, not_false_eq_true, Bool.true_and, Bool.false_and, Bool.and_false, aggEq, scEq, hasSh, alS, List.filterMap_nil, int_beq, int_bne, eq_self]
    subst hQ
    simp (disch := first | assumption | omega) only [R.grid_on, go_sem, ↓reduceIte, Nat.reduceEqDiff, reduceCtorEq, Nat.reduceAdd, Nat.reduceLeDiff, Nat.reduceLT, wrapU32, reduceIte, Int.natCast_nonneg, Int.ofNat_lt, Int.ofNat_le, cond_true, cond_false, Int.reduceBEq, Int.reduceBNe, Int.reduceLT, Int.reduceLE, Int.reduceAdd, Int.reduceSub, Int.reduceMul, Int.reduceNeg, Int.reduceEq, Int.reduceNe, Nat.reduceMul, Nat.reduceSub, decide_true, decide_false, not_true_eq_false, not_false_eq_true, Bool.true_and, Bool.false_and, Bool.and_false, aggEq, scEq, hasSh, alS, List.filterMap_nil, int_beq, int_bne, eq_self]
    have : decide (n < 64) = decide (onG n) := by
      unfold onG; by_cases h2 : n < 64 <;> simp [h1, h2]
    rw [this]
  · simp (disch := first | assumption | omega) only [h1, go_sem, ↓reduceIte, Nat.reduceEqDiff, reduceCtorEq, Nat.reduceAdd, Nat.reduceLeDiff, Nat.reduceLT, wrapU32, reduceIte, Int.natCast_nonneg, Int.ofNat_lt, Int.ofNat_le, cond_true, cond_false, Int.reduceBEq, Int.reduceBNe, Int.reduceLT, Int.reduceLE, Int.reduceAdd, Int.reduceSub, Int.reduceMul, Int.reduceNeg, Int.reduceEq, Int.reduceNe, Nat.reduceMul, Nat.reduceSub, decide_true, decide_false, not_true_eq_false, not_false_eq_true, Bool.true_and, Bool.false_and, Bool.and_false, aggEq, scEq, hasSh, alS, List.filterMap_nil, int_beq, int_bne, eq_self]
    subst hQ
    simp (disch := first | assumption | omega) only [R.grid_on, go_sem, ↓reduceIte, Nat.reduceEqDiff, reduceCtorEq, Nat.reduceAdd, Nat.reduceLeDiff, Nat.reduceLT, wrapU32, reduceIte, Int.natCast_nonneg, Int.ofNat_lt, Int.ofNat_le, cond_true, cond_false, Int.reduceBEq, Int.reduceBNe, Int.reduceLT, Int.reduceLE, Int.reduceAdd, Int.reduceSub, Int.reduceMul, Int.reduceNeg, Int.reduceEq, Int.reduceNe, Nat.reduceMul, Nat.reduceSub, decide_true, decide_false, not_true_eq_false, not_false_eq_true, Bool.true_and, Bool.false_and, Bool.and_false, aggEq, scEq, hasSh, alS, List.filterMap_nil, int_beq, int_bne, eq_self]
    have : ¬ onG n := by unfold onG; omega
    simp [this]
theorem gridCheck_ok (o : Own) (l : List Cell) (ho : Rdo o) (hl : l.length < 4611686018427387904) (h : List HObj) : ACalls Try.prog F.grid_Check [.lst o (cellsA l)] h (fun r h' => r = .int .i64 (cellsFault l) ∧ h' = h) := by
  refine ACalls.of_aw Try.func158 K.grid_Check (by simp [Try.f158]) ?_
  generalize hQ : retQ R.grid_Check _ = Q
  simp (disch := first | assumption | omega) only [C.grid_Check, go_sem, ↓reduceIte, Nat.reduceEqDiff, reduceCtorEq, Nat.reduceAdd, Nat.reduceLeDiff, Nat.reduceLT, wrapU32, reduceIte, Int.natCast_nonneg, Int.ofNat_lt, Int.ofNat_le, cond_true, cond_false, Int.reduceBEq, Int.reduceBNe, Int.reduceLT, Int.reduceLE, Int.reduceAdd, Int.reduceSub, Int.reduceMul, Int.reduceNeg, Int.reduceEq, Int.reduceNe, Nat.reduceMul, Nat.reduceSub, decide_true, decide_false, not_true_eq_false, not_false_eq_true, Bool.true_and, Bool.false_and, Bool.and_false, aggEq, scEq, hasSh, alS, List.filterMap_nil, int_beq, int_bne, eq_self]
  refine condG_if (fun h4 => ?_) fun h4 => ?_
  · simp (disch := first | assumption | omega) only [go_sem, ↓reduceIte, Nat.reduceEqDiff, reduceCtorEq, Nat.reduceAdd, Nat.reduceLeDiff, Nat.reduceLT, wrapU32, reduceIte, Int.natCast_nonneg, Int.ofNat_lt, Int.ofNat_le, cond_true, cond_false, Int.reduceBEq, Int.reduceBNe, Int.reduceLT, Int.reduceLE, Int.reduceAdd, Int.reduceSub, Int.reduceMul, Int.reduceNeg, Int.reduceEq, Int.reduceNe, Nat.reduceMul, Nat.reduceSub, decide_true, decide_false, not_true_eq_false, not_false_eq_true, Bool.true_and, Bool.false_and, Bool.and_false, aggEq, scEq, hasSh, alS, List.filterMap_nil, int_beq, int_bne, eq_self]
    subst hQ
    simp (disch := first | assumption | omega) only [R.grid_Check, go_sem, ↓reduceIte, Nat.reduceEqDiff, reduceCtorEq, Nat.reduceAdd, Nat.reduceLeDiff, Nat.reduceLT, wrapU32, reduceIte, Int.natCast_nonneg, Int.ofNat_lt, Int.ofNat_le, cond_true, cond_false, Int.reduceBEq, Int.reduceBNe, Int.reduceLT, Int.reduceLE, Int.reduceAdd, Int.reduceSub, Int.reduceMul, Int.reduceNeg, Int.reduceEq, Int.reduceNe, Nat.reduceMul, Nat.reduceSub, decide_true, decide_false, not_true_eq_false, not_false_eq_true, Bool.true_and, Bool.false_and, Bool.and_false, aggEq, scEq, hasSh, alS, List.filterMap_nil, int_beq, int_bne, eq_self]
    rw [cellsFault, if_pos (by omega)]
  · have h5 : ¬ l.length > 400 := by omega
    simp (disch := first | assumption | omega) only [go_sem, ↓reduceIte, Nat.reduceEqDiff, reduceCtorEq, Nat.reduceAdd, Nat.reduceLeDiff, Nat.reduceLT, wrapU32, reduceIte, Int.natCast_nonneg, Int.ofNat_lt, Int.ofNat_le, cond_true, cond_false, Int.reduceBEq, Int.reduceBNe, Int.reduceLT, Int.reduceLE, Int.reduceAdd, Int.reduceSub, Int.reduceMul, Int.reduceNeg, Int.reduceEq, Int.reduceNe, Nat.reduceMul, Nat.reduceSub, decide_true, decide_false, not_true_eq_false, not_false_eq_true, Bool.true_and, Bool.false_and, Bool.and_false, aggEq, scEq, hasSh, alS, List.filterMap_nil, int_beq, int_bne, eq_self]
    refine aw_count (fun d S => ∃ (i : Nat), i + d = l.length ∧ S.env 10 = .int .i64 i ∧ S.env 9 = .int .i64 l.length ∧ S.env 8 = .lst o (cellsA l) ∧ S.env 0 = .lst o (cellsA l) ∧ cellsF none l = cellsF (prevC l i) (l.drop i) ∧ S.heap = h) (n := l.length) ⟨0, by simp [go_sem, prevC]⟩ ?_
    rintro d S ⟨i, hi, e10, e9, e8, e0, hf, eh⟩
    simp (disch := first | assumption | omega) only [e10, e9, e8, e0, eh, go_sem, ↓reduceIte, Nat.reduceEqDiff, reduceCtorEq, Nat.reduceAdd, Nat.reduceLeDiff, Nat.reduceLT, wrapU32, reduceIte, Int.natCast_nonneg, Int.ofNat_lt, Int.ofNat_le, cond_true, cond_false, Int.reduceBEq, Int.reduceBNe, Int.reduceLT, Int.reduceLE, Int.reduceAdd, Int.reduceSub, Int.reduceMul, Int.reduceNeg, Int.reduceEq, Int.reduceNe, Nat.reduceMul, Nat.reduceSub, decide_true, decide_false, not_true_eq_false, not_false_eq_true, Bool.true_and, Bool.false_and, Bool.and_false, aggEq, scEq, hasSh, alS, List.filterMap_nil, int_beq, int_bne, eq_self]
    refine condG_if (fun hlt => ?_) fun hge => ?_
    · have hlt : i < l.length := by omega
      have hat := at_cells hlt
      rw [cellsF_step hlt] at hf
      simp (disch := first | assumption | omega) only [e10, e9, e8, e0, eh, hat, cellA, hlt, go_sem, ↓reduceIte, Nat.reduceEqDiff, reduceCtorEq, Nat.reduceAdd, Nat.reduceLeDiff, Nat.reduceLT, wrapU32, reduceIte, Int.natCast_nonneg, Int.ofNat_lt, Int.ofNat_le, cond_true, cond_false, Int.reduceBEq, Int.reduceBNe, Int.reduceLT, Int.reduceLE, Int.reduceAdd, Int.reduceSub, Int.reduceMul, Int.reduceNeg, Int.reduceEq, Int.reduceNe, Nat.reduceMul, Nat.reduceSub, decide_true, decide_false, not_true_eq_false, not_false_eq_true, Bool.true_and, Bool.false_and, Bool.and_false, aggEq, scEq, hasSh, alS, List.filterMap_nil, int_beq, int_bne, eq_self]
      by_cases hx : onG l[i].X
      · refine callG_ok (on_ok l[i].X _) (by simp (disch := first | assumption | omega) only [go_sem, ↓reduceIte, Nat.reduceEqDiff, reduceCtorEq, Nat.reduceAdd, Nat.reduceLeDiff, Nat.reduceLT, wrapU32, reduceIte, Int.natCast_nonneg, Int.ofNat_lt, Int.ofNat_le, cond_true, cond_false, Int.reduceBEq, Int.reduceBNe, Int.reduceLT, Int.reduceLE, Int.reduceAdd, Int.reduceSub, Int.reduceMul, Int.reduceNeg, Int.reduceEq, Int.reduceNe, Nat.reduceMul, Nat.reduceSub, decide_true, decide_false, not_true_eq_false, not_false_eq_true, Bool.true_and, Bool.false_and, Bool.and_false, aggEq, scEq, hasSh, alS, List.filterMap_nil, int_beq, int_bne, eq_self]) ?_
        rintro _ _ ⟨rfl, hhh⟩
        try rw [hhh]
        clear hhh
        simp (disch := first | assumption | omega) only [e10, e9, e8, e0, eh, hx, go_sem, ↓reduceIte, Nat.reduceEqDiff, reduceCtorEq, Nat.reduceAdd, Nat.reduceLeDiff, Nat.reduceLT, wrapU32, reduceIte, Int.natCast_nonneg, Int.ofNat_lt, Int.ofNat_le, cond_true, cond_false, Int.reduceBEq, Int.reduceBNe, Int.reduceLT, Int.reduceLE, Int.reduceAdd, Int.reduceSub, Int.reduceMul, Int.reduceNeg, Int.reduceEq, Int.reduceNe, Nat.reduceMul, Nat.reduceSub, decide_true, decide_false, not_true_eq_false, not_false_eq_true, Bool.true_and, Bool.false_and, Bool.and_false, aggEq, scEq, hasSh, alS, List.filterMap_nil, int_beq, int_bne, eq_self]
        by_cases hy : onG l[i].Y
        · refine callG_ok (on_ok l[i].Y _) (by simp (disch := first | assumption | omega) only [go_sem, ↓reduceIte, Nat.reduceEqDiff, reduceCtorEq, Nat.reduceAdd, Nat.reduceLeDiff, Nat.reduceLT, wrapU32, reduceIte, Int.natCast_nonneg, Int.ofNat_lt, Int.ofNat_le, cond_true, cond_false, Int.reduceBEq, Int.reduceBNe, Int.reduceLT, Int.reduceLE, Int.reduceAdd, Int.reduceSub, Int.reduceMul, Int.reduceNeg, Int.reduceEq, Int.reduceNe, Nat.reduceMul, Nat.reduceSub, decide_true, decide_false, not_true_eq_false, not_false_eq_true, Bool.true_and, Bool.false_and, Bool.and_false, aggEq, scEq, hasSh, alS, List.filterMap_nil, int_beq, int_bne, eq_self]) ?_
          rintro _ _ ⟨rfl, hhh⟩
          try rw [hhh]
          clear hhh
          simp (disch := first | assumption | omega) only [e10, e9, e8, e0, eh, hy, go_sem, ↓reduceIte, Nat.reduceEqDiff, reduceCtorEq, Nat.reduceAdd, Nat.reduceLeDiff, Nat.reduceLT, wrapU32, reduceIte, Int.natCast_nonneg, Int.ofNat_lt, Int.ofNat_le, cond_true, cond_false, Int.reduceBEq, Int.reduceBNe, Int.reduceLT, Int.reduceLE, Int.reduceAdd, Int.reduceSub, Int.reduceMul, Int.reduceNeg, Int.reduceEq, Int.reduceNe, Nat.reduceMul, Nat.reduceSub, decide_true, decide_false, not_true_eq_false, not_false_eq_true, Bool.true_and, Bool.false_and, Bool.and_false, aggEq, scEq, hasSh, alS, List.filterMap_nil, int_beq, int_bne, eq_self]
          rw [if_neg (by simp [hx, hy])] at hf
          refine aopsG_if (fun h0 => ?_) fun h0 => ?_
          · have hi0 := h0
            have h0 : 0 < i := by omega
            have hat2 := at_cells (l := l) (i := i - 1) (by omega)
            have ei : ((i - 1 : Nat) : Int) = (i : Int) - 1 := by omega
            rw [ei] at hat2
            have hp : prevC l i = some l[i - 1] := by unfold prevC; rw [if_neg (by omega), List.getElem?_eq_getElem (by omega)]
            have hlt2 : i - 1 < l.length := by omega
            simp (disch := first | assumption | omega) only [e10, e9, e8, e0, eh, hat2, h0, hi0, hlt2, cellA, go_sem, ↓reduceIte, Nat.reduceEqDiff, reduceCtorEq, Nat.reduceAdd, Nat.reduceLeDiff, Nat.reduceLT, wrapU32, reduceIte, Int.natCast_nonneg, Int.ofNat_lt, Int.ofNat_le, cond_true, cond_false, Int.reduceBEq, Int.reduceBNe, Int.reduceLT, Int.reduceLE, Int.reduceAdd, Int.reduceSub, Int.reduceMul, Int.reduceNeg, Int.reduceEq, Int.reduceNe, Nat.reduceMul, Nat.reduceSub, decide_true, decide_false, not_true_eq_false, not_false_eq_true, Bool.true_and, Bool.false_and, Bool.and_false, aggEq, scEq, hasSh, alS, List.filterMap_nil, int_beq, int_bne, eq_self]
            refine ⟨⟨by omega, by omega⟩, ?_⟩
            refine callG_ok (order_ok l[i - 1] l[i] _) (by simp (disch := first | assumption | omega) only [go_sem, ↓reduceIte, Nat.reduceEqDiff, reduceCtorEq, Nat.reduceAdd, Nat.reduceLeDiff, Nat.reduceLT, wrapU32, reduceIte, Int.natCast_nonneg, Int.ofNat_lt, Int.ofNat_le, cond_true, cond_false, Int.reduceBEq, Int.reduceBNe, Int.reduceLT, Int.reduceLE, Int.reduceAdd, Int.reduceSub, Int.reduceMul, Int.reduceNeg, Int.reduceEq, Int.reduceNe, Nat.reduceMul, Nat.reduceSub, decide_true, decide_false, not_true_eq_false, not_false_eq_true, Bool.true_and, Bool.false_and, Bool.and_false, aggEq, scEq, hasSh, alS, List.filterMap_nil, int_beq, int_bne, eq_self]) ?_
            rintro _ _ ⟨rfl, hhh⟩
            try rw [hhh]
            clear hhh
            simp (disch := first | assumption | omega) only [e10, e9, e8, e0, eh, go_sem, ↓reduceIte, Nat.reduceEqDiff, reduceCtorEq, Nat.reduceAdd, Nat.reduceLeDiff, Nat.reduceLT, wrapU32, reduceIte, Int.natCast_nonneg, Int.ofNat_lt, Int.ofNat_le, cond_true, cond_false, Int.reduceBEq, Int.reduceBNe, Int.reduceLT, Int.reduceLE, Int.reduceAdd, Int.reduceSub, Int.reduceMul, Int.reduceNeg, Int.reduceEq, Int.reduceNe, Nat.reduceMul, Nat.reduceSub, decide_true, decide_false, not_true_eq_false, not_false_eq_true, Bool.true_and, Bool.false_and, Bool.and_false, aggEq, scEq, hasSh, alS, List.filterMap_nil, int_beq, int_bne, eq_self]
            refine condG_if (fun hc => ?_) fun hc => ?_
            · simp (disch := first | assumption | omega) only [e10, e9, e8, e0, eh, go_sem, ↓reduceIte, Nat.reduceEqDiff, reduceCtorEq, Nat.reduceAdd, Nat.reduceLeDiff, Nat.reduceLT, wrapU32, reduceIte, Int.natCast_nonneg, Int.ofNat_lt, Int.ofNat_le, cond_true, cond_false, Int.reduceBEq, Int.reduceBNe, Int.reduceLT, Int.reduceLE, Int.reduceAdd, Int.reduceSub, Int.reduceMul, Int.reduceNeg, Int.reduceEq, Int.reduceNe, Nat.reduceMul, Nat.reduceSub, decide_true, decide_false, not_true_eq_false, not_false_eq_true, Bool.true_and, Bool.false_and, Bool.and_false, aggEq, scEq, hasSh, alS, List.filterMap_nil, int_beq, int_bne, eq_self]
              subst hQ
              simp (disch := first | assumption | omega) only [R.grid_Check, go_sem, ↓reduceIte, Nat.reduceEqDiff, reduceCtorEq, Nat.reduceAdd, Nat.reduceLeDiff, Nat.reduceLT, wrapU32, reduceIte, Int.natCast_nonneg, Int.ofNat_lt, Int.ofNat_le, cond_true, cond_false, Int.reduceBEq, Int.reduceBNe, Int.reduceLT, Int.reduceLE, Int.reduceAdd, Int.reduceSub, Int.reduceMul, Int.reduceNeg, Int.reduceEq, Int.reduceNe, Nat.reduceMul, Nat.reduceSub, decide_true, decide_false, not_true_eq_false, not_false_eq_true, Bool.true_and, Bool.false_and, Bool.and_false, aggEq, scEq, hasSh, alS, List.filterMap_nil, int_beq, int_bne, eq_self]
              rw [cellsFault, if_neg h5, hf, hp, if_pos ⟨_, rfl, (orderC_lt _ _).1 hc⟩]
              exact ⟨rfl, eh⟩
            · simp (disch := first | assumption | omega) only [e10, e9, e8, e0, eh, go_sem, ↓reduceIte, Nat.reduceEqDiff, reduceCtorEq, Nat.reduceAdd, Nat.reduceLeDiff, Nat.reduceLT, wrapU32, reduceIte, Int.natCast_nonneg, Int.ofNat_lt, Int.ofNat_le, cond_true, cond_false, Int.reduceBEq, Int.reduceBNe, Int.reduceLT, Int.reduceLE, Int.reduceAdd, Int.reduceSub, Int.reduceMul, Int.reduceNeg, Int.reduceEq, Int.reduceNe, Nat.reduceMul, Nat.reduceSub, decide_true, decide_false, not_true_eq_false, not_false_eq_true, Bool.true_and, Bool.false_and, Bool.and_false, aggEq, scEq, hasSh, alS, List.filterMap_nil, int_beq, int_bne, eq_self]
              rw [hp, if_neg (by rintro ⟨q, hq, hq2⟩; cases hq; exact hc ((orderC_lt _ _).2 hq2))] at hf
              exact ⟨d - 1, by omega, i + 1, by omega, by simp, hf⟩
          · have hp : prevC l i = none := by unfold prevC; rw [if_pos (by omega)]
            rw [hp, if_neg (by simp)] at hf
            simp (disch := first | assumption | omega) only [e10, e9, e8, e0, eh, h0, go_sem, ↓reduceIte, Nat.reduceEqDiff, reduceCtorEq, Nat.reduceAdd, Nat.reduceLeDiff, Nat.reduceLT, wrapU32, reduceIte, Int.natCast_nonneg, Int.ofNat_lt, Int.ofNat_le, cond_true, cond_false, Int.reduceBEq, Int.reduceBNe, Int.reduceLT, Int.reduceLE, Int.reduceAdd, Int.reduceSub, Int.reduceMul, Int.reduceNeg, Int.reduceEq, Int.reduceNe, Nat.reduceMul, Nat.reduceSub, decide_true, decide_false, not_true_eq_false, not_false_eq_true, Bool.true_and, Bool.false_and, Bool.and_false, aggEq, scEq, hasSh, alS, List.filterMap_nil, int_beq, int_bne, eq_self]
            exact ⟨d - 1, by omega, i + 1, by omega, by simp, hf⟩
        · refine callG_ok (on_ok l[i].Y _) (by simp (disch := first | assumption | omega) only [go_sem, ↓reduceIte, Nat.reduceEqDiff, reduceCtorEq, Nat.reduceAdd, Nat.reduceLeDiff, Nat.reduceLT, wrapU32, reduceIte, Int.natCast_nonneg, Int.ofNat_lt, Int.ofNat_le, cond_true, cond_false, Int.reduceBEq, Int.reduceBNe, Int.reduceLT, Int.reduceLE, Int.reduceAdd, Int.reduceSub, Int.reduceMul, Int.reduceNeg, Int.reduceEq, Int.reduceNe, Nat.reduceMul, Nat.reduceSub, decide_true, decide_false, not_true_eq_false, not_false_eq_true, Bool.true_and, Bool.false_and, Bool.and_false, aggEq, scEq, hasSh, alS, List.filterMap_nil, int_beq, int_bne, eq_self]) ?_
          rintro _ _ ⟨rfl, hhh⟩
          try rw [hhh]
          clear hhh
          simp (disch := first | assumption | omega) only [e10, e9, e8, e0, eh, hy, go_sem, ↓reduceIte, Nat.reduceEqDiff, reduceCtorEq, Nat.reduceAdd, Nat.reduceLeDiff, Nat.reduceLT, wrapU32, reduceIte, Int.natCast_nonneg, Int.ofNat_lt, Int.ofNat_le, cond_true, cond_false, Int.reduceBEq, Int.reduceBNe, Int.reduceLT, Int.reduceLE, Int.reduceAdd, Int.reduceSub, Int.reduceMul, Int.reduceNeg, Int.reduceEq, Int.reduceNe, Nat.reduceMul, Nat.reduceSub, decide_true, decide_false, not_true_eq_false, not_false_eq_true, Bool.true_and, Bool.false_and, Bool.and_false, aggEq, scEq, hasSh, alS, List.filterMap_nil, int_beq, int_bne, eq_self]
          subst hQ
          simp (disch := first | assumption | omega) only [R.grid_Check, go_sem, ↓reduceIte, Nat.reduceEqDiff, reduceCtorEq, Nat.reduceAdd, Nat.reduceLeDiff, Nat.reduceLT, wrapU32, reduceIte, Int.natCast_nonneg, Int.ofNat_lt, Int.ofNat_le, cond_true, cond_false, Int.reduceBEq, Int.reduceBNe, Int.reduceLT, Int.reduceLE, Int.reduceAdd, Int.reduceSub, Int.reduceMul, Int.reduceNeg, Int.reduceEq, Int.reduceNe, Nat.reduceMul, Nat.reduceSub, decide_true, decide_false, not_true_eq_false, not_false_eq_true, Bool.true_and, Bool.false_and, Bool.and_false, aggEq, scEq, hasSh, alS, List.filterMap_nil, int_beq, int_bne, eq_self]
          rw [cellsFault, if_neg h5, hf, if_pos (.inr hy)]
          exact ⟨rfl, eh⟩
      · refine callG_ok (on_ok l[i].X _) (by simp (disch := first | assumption | omega) only [go_sem, ↓reduceIte, Nat.reduceEqDiff, reduceCtorEq, Nat.reduceAdd, Nat.reduceLeDiff, Nat.reduceLT, wrapU32, reduceIte, Int.natCast_nonneg, Int.ofNat_lt, Int.ofNat_le, cond_true, cond_false, Int.reduceBEq, Int.reduceBNe, Int.reduceLT, Int.reduceLE, Int.reduceAdd, Int.reduceSub, Int.reduceMul, Int.reduceNeg, Int.reduceEq, Int.reduceNe, Nat.reduceMul, Nat.reduceSub, decide_true, decide_false, not_true_eq_false, not_false_eq_true, Bool.true_and, Bool.false_and, Bool.and_false, aggEq, scEq, hasSh, alS, List.filterMap_nil, int_beq, int_bne, eq_self]) ?_
        rintro _ _ ⟨rfl, hhh⟩
        try rw [hhh]
        clear hhh
        simp (disch := first | assumption | omega) only [e10, e9, e8, e0, eh, hx, go_sem, ↓reduceIte, Nat.reduceEqDiff, reduceCtorEq, Nat.reduceAdd, Nat.reduceLeDiff, Nat.reduceLT, wrapU32, reduceIte, Int.natCast_nonneg, Int.ofNat_lt, Int.ofNat_le, cond_true, cond_false, Int.reduceBEq, Int.reduceBNe, Int.reduceLT, Int.reduceLE, Int.reduceAdd, Int.reduceSub, Int.reduceMul, Int.reduceNeg, Int.reduceEq, Int.reduceNe, Nat.reduceMul, Nat.reduceSub, decide_true, decide_false, not_true_eq_false, not_false_eq_true, Bool.true_and, Bool.false_and, Bool.and_false, aggEq, scEq, hasSh, alS, List.filterMap_nil, int_beq, int_bne, eq_self]
        subst hQ
        simp (disch := first | assumption | omega) only [R.grid_Check, go_sem, ↓reduceIte, Nat.reduceEqDiff, reduceCtorEq, Nat.reduceAdd, Nat.reduceLeDiff, Nat.reduceLT, wrapU32, reduceIte, Int.natCast_nonneg, Int.ofNat_lt, Int.ofNat_le, cond_true, cond_false, Int.reduceBEq, Int.reduceBNe, Int.reduceLT, Int.reduceLE, Int.reduceAdd, Int.reduceSub, Int.reduceMul, Int.reduceNeg, Int.reduceEq, Int.reduceNe, Nat.reduceMul, Nat.reduceSub, decide_true, decide_false, not_true_eq_false, not_false_eq_true, Bool.true_and, Bool.false_and, Bool.and_false, aggEq, scEq, hasSh, alS, List.filterMap_nil, int_beq, int_bne, eq_self]
        rw [cellsFault, if_neg h5, hf, if_pos (.inl hx)]
        exact ⟨rfl, eh⟩
    · obtain rfl : i = l.length := by omega
      rw [List.drop_length, cellsF] at hf
      simp (disch := first | assumption | omega) only [e10, e9, e8, e0, eh, go_sem, ↓reduceIte, Nat.reduceEqDiff, reduceCtorEq, Nat.reduceAdd, Nat.reduceLeDiff, Nat.reduceLT, wrapU32, reduceIte, Int.natCast_nonneg, Int.ofNat_lt, Int.ofNat_le, cond_true, cond_false, Int.reduceBEq, Int.reduceBNe, Int.reduceLT, Int.reduceLE, Int.reduceAdd, Int.reduceSub, Int.reduceMul, Int.reduceNeg, Int.reduceEq, Int.reduceNe, Nat.reduceMul, Nat.reduceSub, decide_true, decide_false, not_true_eq_false, not_false_eq_true, Bool.true_and, Bool.false_and, Bool.and_false, aggEq, scEq, hasSh, alS, List.filterMap_nil, int_beq, int_bne, eq_self]
      subst hQ
      simp (disch := first | assumption | omega) only [R.grid_Check, go_sem, ↓reduceIte, Nat.reduceEqDiff, reduceCtorEq, Nat.reduceAdd, Nat.reduceLeDiff, Nat.reduceLT, wrapU32, reduceIte, Int.natCast_nonneg, Int.ofNat_lt, Int.ofNat_le, cond_true, cond_false, Int.reduceBEq, Int.reduceBNe, Int.reduceLT, Int.reduceLE, Int.reduceAdd, Int.reduceSub, Int.reduceMul, Int.reduceNeg, Int.reduceEq, Int.reduceNe, Nat.reduceMul, Nat.reduceSub, decide_true, decide_false, not_true_eq_false, not_false_eq_true, Bool.true_and, Bool.false_and, Bool.and_false, aggEq, scEq, hasSh, alS, List.filterMap_nil, int_beq, int_bne, eq_self]
      rw [cellsFault, if_neg h5, hf]
      exact ⟨rfl, eh⟩
theorem Check_ok (o : Own) (m : Msg) (ho : Rdo o) (hl : m.Cells.length < 4611686018427387904) (h : List HObj) : ACalls Try.prog F.msg_Check [msgA o m] h (fun r h' => r = .int .i64 (checkF m) ∧ h' = h) := by
  refine ACalls.of_aw Try.func74 K.msg_Check (by simp [Try.f74]) ?_
  generalize hQ : retQ R.msg_Check _ = Q
  simp (disch := first | assumption | omega) only [C.msg_Check, go_sem, ↓reduceIte, Nat.reduceEqDiff, reduceCtorEq, Nat.reduceAdd, Nat.reduceLeDiff, Nat.reduceLT, wrapU32, reduceIte, Int.natCast_nonneg, Int.ofNat_lt, Int.ofNat_le, cond_true, cond_false, Int.reduceBEq, Int.reduceBNe, Int.reduceLT, Int.reduceLE, Int.reduceAdd, Int.reduceSub, Int.reduceMul, Int.reduceNeg, Int.reduceEq, Int.reduceNe, Nat.reduceMul, Nat.reduceSub, decide_true, decide_false, not_true_eq_false, not_false_eq_true, Bool.true_and, Bool.false_and, Bool.and_false, aggEq, scEq, hasSh, alS, List.filterMap_nil, int_beq, int_bne, eq_self]
  simp (disch := first | assumption | omega) only [msgA, msgC, go_sem, ↓reduceIte, Nat.reduceEqDiff, reduceCtorEq, Nat.reduceAdd, Nat.reduceLeDiff, Nat.reduceLT, wrapU32, reduceIte, Int.natCast_nonneg, Int.ofNat_lt, Int.ofNat_le, cond_true, cond_false, Int.reduceBEq, Int.reduceBNe, Int.reduceLT, Int.reduceLE, Int.reduceAdd, Int.reduceSub, Int.reduceMul, Int.reduceNeg, Int.reduceEq, Int.reduceNe, Nat.reduceMul, Nat.reduceSub, decide_true, decide_false, not_true_eq_false, not_false_eq_true, Bool.true_and, Bool.false_and, Bool.and_false, aggEq, scEq, hasSh, alS, List.filterMap_nil, int_beq, int_bne, eq_self]
  iterate 14 (all_goals (try ((first | refine aopsG_ifn (fun hb => ?_) (fun hb => ?_) | refine condG_ifn (fun hb => ?_) (fun hb => ?_) | refine aopsG_if (fun hb => ?_) (fun hb => ?_) | refine condG_if (fun hb => ?_) (fun hb => ?_) | refine aopsG_split (fun hb => ?_) (fun hb => ?_) | refine condG_split (fun hb => ?_) (fun hb => ?_)) <;> simp (disch := first | assumption | omega) only [hb, msgA, msgC, go_sem, ↓reduceIte, Nat.reduceEqDiff, reduceCtorEq, Nat.reduceAdd, Nat.reduceLeDiff, Nat.reduceLT, wrapU32, reduceIte, Int.natCast_nonneg, Int.ofNat_lt, Int.ofNat_le, cond_true, cond_false, Int.reduceBEq, Int.reduceBNe, Int.reduceLT, Int.reduceLE, Int.reduceAdd, Int.reduceSub, Int.reduceMul, Int.reduceNeg, Int.reduceEq, Int.reduceNe, Nat.reduceMul, Nat.reduceSub, decide_true, decide_false, not_true_eq_false, not_false_eq_true, Bool.true_and, Bool.false_and, Bool.and_false, aggEq, scEq, hasSh, alS, List.filterMap_nil, int_beq, int_bne, eq_self])))
  all_goals (try omega)
  all_goals first
    | (refine callG_ok (gridCheck_ok o m.Cells ho hl _) (by simp (disch := first | assumption | omega) only [go_sem, ↓reduceIte, Nat.reduceEqDiff, reduceCtorEq, Nat.reduceAdd, Nat.reduceLeDiff, Nat.reduceLT, wrapU32, reduceIte, Int.natCast_nonneg, Int.ofNat_lt, Int.ofNat_le, cond_true, cond_false, Int.reduceBEq, Int.reduceBNe, Int.reduceLT, Int.reduceLE, Int.reduceAdd, Int.reduceSub, Int.reduceMul, Int.reduceNeg, Int.reduceEq, Int.reduceNe, Nat.reduceMul, Nat.reduceSub, decide_true, decide_false, not_true_eq_false, not_false_eq_true, Bool.true_and, Bool.false_and, Bool.and_false, aggEq, scEq, hasSh, alS, List.filterMap_nil, int_beq, int_bne, eq_self]) ?_
       rintro _ _ ⟨rfl, hhh⟩
       rw [hhh]
       clear hhh
       simp (disch := first | assumption | omega) only [go_sem, ↓reduceIte, Nat.reduceEqDiff, reduceCtorEq, Nat.reduceAdd, Nat.reduceLeDiff, Nat.reduceLT, wrapU32, reduceIte, Int.natCast_nonneg, Int.ofNat_lt, Int.ofNat_le, cond_true, cond_false, Int.reduceBEq, Int.reduceBNe, Int.reduceLT, Int.reduceLE, Int.reduceAdd, Int.reduceSub, Int.reduceMul, Int.reduceNeg, Int.reduceEq, Int.reduceNe, Nat.reduceMul, Nat.reduceSub, decide_true, decide_false, not_true_eq_false, not_false_eq_true, Bool.true_and, Bool.false_and, Bool.and_false, aggEq, scEq, hasSh, alS, List.filterMap_nil, int_beq, int_bne, eq_self]
       subst hQ
       simp (disch := first | assumption | omega) only [R.msg_Check, go_sem, ↓reduceIte, Nat.reduceEqDiff, reduceCtorEq, Nat.reduceAdd, Nat.reduceLeDiff, Nat.reduceLT, wrapU32, reduceIte, Int.natCast_nonneg, Int.ofNat_lt, Int.ofNat_le, cond_true, cond_false, Int.reduceBEq, Int.reduceBNe, Int.reduceLT, Int.reduceLE, Int.reduceAdd, Int.reduceSub, Int.reduceMul, Int.reduceNeg, Int.reduceEq, Int.reduceNe, Nat.reduceMul, Nat.reduceSub, decide_true, decide_false, not_true_eq_false, not_false_eq_true, Bool.true_and, Bool.false_and, Bool.and_false, aggEq, scEq, hasSh, alS, List.filterMap_nil, int_beq, int_bne, eq_self]
       have : msgFault m = 0 := by unfold msgFault; (repeat split) <;> omega
       rw [checkF, if_neg (by simp [this])])
    | (subst hQ
       simp (disch := first | assumption | omega) only [R.msg_Check, go_sem, ↓reduceIte, Nat.reduceEqDiff, reduceCtorEq, Nat.reduceAdd, Nat.reduceLeDiff, Nat.reduceLT, wrapU32, reduceIte, Int.natCast_nonneg, Int.ofNat_lt, Int.ofNat_le, cond_true, cond_false, Int.reduceBEq, Int.reduceBNe, Int.reduceLT, Int.reduceLE, Int.reduceAdd, Int.reduceSub, Int.reduceMul, Int.reduceNeg, Int.reduceEq, Int.reduceNe, Nat.reduceMul, Nat.reduceSub, decide_true, decide_false, not_true_eq_false, not_false_eq_true, Bool.true_and, Bool.false_and, Bool.and_false, aggEq, scEq, hasSh, alS, List.filterMap_nil, int_beq, int_bne, eq_self]
       refine congrArg (AVal.int .i64) ?_
       have : msgFault m ≠ 0 := by unfold msgFault; (repeat split) <;> omega
       rw [checkF, if_pos this]
       unfold msgFault; (repeat split) <;> omega)
end Go.Proofs.Ytpdajkbfemcdlaa
/- Annotated code of functions, checked against the program. -/
namespace Go.Proofs.Ytpdajkbfemcdlaa
open Go.Ge
/-- gantry/gantmake.Below -/
def C.gantmake_Below : ACode :=
  .seq (.region [
    ⟨some 4, .move false (.c (.int .i64 0)), none⟩]) (
  .seq (.region [
    ⟨some 5, .move false (.t 0), none⟩, 
    ⟨some 6, .move false (.t 1), none⟩, 
    ⟨some 7, .bin .rem (.t 5) (.t 6), none⟩, 
    ⟨some 0, .move false (.t 7), none⟩]) (
  .seq (.seq (.region [
    ⟨some 8, .move false (.t 0), none⟩, 
    ⟨some 9, .bin .lss (.t 8) (.c (.int .i64 0)), none⟩]) (
  .cond (.t 9) (.region [
    ⟨some 10, .move false (.t 0), none⟩, 
    ⟨some 11, .move false (.t 1), none⟩, 
    ⟨some 12, .bin .add (.t 10) (.t 11), none⟩, 
    ⟨some 0, .move false (.t 12), none⟩]) (.skip))) (
  .seq (.region [
    ⟨some 13, .move false (.t 0), none⟩, 
    ⟨some 4, .move false (.t 13), none⟩]) (
  .ret))))
def R.gantmake_Below : List ARes := [.t 4]
set_option maxRecDepth 100000 in
theorem K.gantmake_Below : ckFun Try.prog Try.f42 C.gantmake_Below R.gantmake_Below = true := by kernel_rfl
end Go.Proofs.Ytpdajkbfemcdlaa
/- Contracts: clocks. -/
set_option linter.unusedSimpArgs false
set_option linter.unusedVariables false
set_option maxRecDepth 10000
namespace Go.Proofs.Ytpdajkbfemcdlaa
open Go.Ge
def after (a n : Int) : Int := (a + n) % 4294967296
theorem Below_ok (x n : Int) (hx : inI64 x) (hn : 0 < n) (hn2 : n < 9223372036854775808) (h : List HObj) : ACalls Try.prog F.gantmake_Below [.int .i64 x, .int .i64 n] h (fun r h' => r = .int .i64 (x % n) ∧ h' = h) := by
  unfold inI64 at hx
  refine ACalls.of_aw Try.func42 K.gantmake_Below (by simp [Try.f42]) ?_
  generalize hQ : retQ R.gantmake_Below _ = Q
  simp (disch := first | assumption | omega) only [C.gantmake_Below, go_sem, ↓reduceIte, Nat.reduceEqDiff, reduceCtorEq, Nat.reduceAdd, Nat.reduceLeDiff, Nat.reduceLT, wrapU32, reduceIte, Int.natCast_nonneg, Int.ofNat_lt, Int.ofNat_le, cond_true, cond_false]
  refine ⟨by omega, ?_⟩
  have e := Int.tmod_eq_emod (a := x) (b := n)
  have h1 := Int.emod_nonneg x (show n ≠ 0 by omega)
  have h2 := Int.emod_lt_of_pos x hn
  by_cases h0 : 0 ≤ x ∨ n ∣ x
  · rw [if_pos h0] at e
    refine condG_if (fun hlt => by omega) fun hge => ?_
    simp (disch := first | assumption | omega) only [go_sem, ↓reduceIte, Nat.reduceEqDiff, reduceCtorEq, Nat.reduceAdd, Nat.reduceLeDiff, Nat.reduceLT, wrapU32, reduceIte, Int.natCast_nonneg, Int.ofNat_lt, Int.ofNat_le, cond_true, cond_false]
    subst hQ
    simp (disch := first | assumption | omega) only [R.gantmake_Below, go_sem, ↓reduceIte, Nat.reduceEqDiff, reduceCtorEq, Nat.reduceAdd, Nat.reduceLeDiff, Nat.reduceLT, wrapU32, reduceIte, Int.natCast_nonneg, Int.ofNat_lt, Int.ofNat_le, cond_true, cond_false]
    rw [e]; simp
  · rw [if_neg h0] at e
    have : (n.natAbs : Int) = n := by omega
    refine condG_if (fun hlt => ?_) fun hge => ?_
    · simp (disch := first | assumption | omega) only [go_sem, ↓reduceIte, Nat.reduceEqDiff, reduceCtorEq, Nat.reduceAdd, Nat.reduceLeDiff, Nat.reduceLT, wrapU32, reduceIte, Int.natCast_nonneg, Int.ofNat_lt, Int.ofNat_le, cond_true, cond_false]
      subst hQ
      simp (disch := first | assumption | omega) only [R.gantmake_Below, go_sem, ↓reduceIte, Nat.reduceEqDiff, reduceCtorEq, Nat.reduceAdd, Nat.reduceLeDiff, Nat.reduceLT, wrapU32, reduceIte, Int.natCast_nonneg, Int.ofNat_lt, Int.ofNat_le, cond_true, cond_false]
      rw [e]; congr 1; omega
    · exfalso
      have h3 : x % n ≠ 0 := fun h => h0 (.inr (Int.dvd_of_emod_eq_zero h))
      omega
end Go.Proofs.Ytpdajkbfemcdlaa
/- Contracts: messages, the same and copied. -/
set_option linter.unusedSimpArgs false
set_option linter.unusedVariables false
set_option maxRecDepth 10000
namespace Go.Proofs.Ytpdajkbfemcdlaa
open Go.Ge
theorem EqualCell_ok (o1 o2 : Own) (a b : List Cell) (h1 : Rdo o1) (h2 : Rdo o2) (hl : a.length < 4611686018427387904) (hl2 : b.length < 4611686018427387904) (h : List HObj) :
    ACalls Try.prog F.slices_Equal_Cell [.lst o1 (cellsA a), .lst o2 (cellsA b)] h (fun r h' => r = .bool (decide (a = b)) ∧ h' = h) := by
  refine ACalls.of_aw Try.func123 K.slices_Equal_Cell (by simp [Try.f123]) ?_
  generalize hQ : retQ R.slices_Equal_Cell _ = Q
  simp (disch := first | assumption | omega) only [C.slices_Equal_Cell, go_sem, ↓reduceIte, Nat.reduceEqDiff, reduceCtorEq, Nat.reduceAdd, Nat.reduceLeDiff, Nat.reduceLT, wrapU32, reduceIte, Int.natCast_nonneg, Int.ofNat_lt, Int.ofNat_le, cond_true, cond_false, Int.reduceBEq, Int.reduceBNe, Int.reduceLT, Int.reduceLE, Int.reduceAdd, Int.reduceSub, Int.reduceMul, Int.reduceNeg, Int.reduceEq, Int.reduceNe, Nat.reduceMul, Nat.reduceSub, decide_true, decide_false, not_true_eq_false, not_false_eq_true, Bool.true_and, Bool.false_and, Bool.and_false, aggEq, scEq, hasSh, alS, List.filterMap_nil]
  by_cases he : a.length = b.length
  · simp (disch := first | assumption | omega) only [he, go_sem, ↓reduceIte, Nat.reduceEqDiff, reduceCtorEq, Nat.reduceAdd, Nat.reduceLeDiff, Nat.reduceLT, wrapU32, reduceIte, Int.natCast_nonneg, Int.ofNat_lt, Int.ofNat_le, cond_true, cond_false, Int.reduceBEq, Int.reduceBNe, Int.reduceLT, Int.reduceLE, Int.reduceAdd, Int.reduceSub, Int.reduceMul, Int.reduceNeg, Int.reduceEq, Int.reduceNe, Nat.reduceMul, Nat.reduceSub, decide_true, decide_false, not_true_eq_false, not_false_eq_true, Bool.true_and, Bool.false_and, Bool.and_false, aggEq, scEq, hasSh, alS, List.filterMap_nil]
    refine aw_count (fun d S => ∃ (i : Nat), i + d = a.length ∧ S.env 13 = .int .i64 i ∧ S.env 12 = .int .i64 b.length ∧ S.env 0 = .lst o1 (cellsA a) ∧ S.env 1 = .lst o2 (cellsA b) ∧ a.take i = b.take i ∧ S.heap = h) (n := a.length) ⟨0, by simp [go_sem]⟩ ?_
    rintro d S ⟨i, hi, e13, e12, e0, e1, ht, eh⟩
    simp (disch := first | assumption | omega) only [e13, e12, e0, e1, eh, go_sem, ↓reduceIte, Nat.reduceEqDiff, reduceCtorEq, Nat.reduceAdd, Nat.reduceLeDiff, Nat.reduceLT, wrapU32, reduceIte, Int.natCast_nonneg, Int.ofNat_lt, Int.ofNat_le, cond_true, cond_false, Int.reduceBEq, Int.reduceBNe, Int.reduceLT, Int.reduceLE, Int.reduceAdd, Int.reduceSub, Int.reduceMul, Int.reduceNeg, Int.reduceEq, Int.reduceNe, Nat.reduceMul, Nat.reduceSub, decide_true, decide_false, not_true_eq_false, not_false_eq_true, Bool.true_and, Bool.false_and, Bool.and_false, aggEq, scEq, hasSh, alS, List.filterMap_nil]
    refine condG_if (fun hlt => ?_) fun hge => ?_
    · have hlt1 : i < a.length := by omega
      have hlt2 : i < b.length := by omega
      have hat1 := at_cells hlt1
      have hat2 := at_cells hlt2
      simp (disch := first | assumption | omega) only [e13, e12, e0, e1, eh, hat1, hat2, cellA, hlt1, hlt2, go_sem, ↓reduceIte, Nat.reduceEqDiff, reduceCtorEq, Nat.reduceAdd, Nat.reduceLeDiff, Nat.reduceLT, wrapU32, reduceIte, Int.natCast_nonneg, Int.ofNat_lt, Int.ofNat_le, cond_true, cond_false, Int.reduceBEq, Int.reduceBNe, Int.reduceLT, Int.reduceLE, Int.reduceAdd, Int.reduceSub, Int.reduceMul, Int.reduceNeg, Int.reduceEq, Int.reduceNe, Nat.reduceMul, Nat.reduceSub, decide_true, decide_false, not_true_eq_false, not_false_eq_true, Bool.true_and, Bool.false_and, Bool.and_false, aggEq, scEq, hasSh, alS, List.filterMap_nil]
      refine condG_split (fun hb => ?_) fun hb => ?_
      · simp (disch := first | assumption | omega) only [e13, e12, e0, e1, eh, go_sem, ↓reduceIte, Nat.reduceEqDiff, reduceCtorEq, Nat.reduceAdd, Nat.reduceLeDiff, Nat.reduceLT, wrapU32, reduceIte, Int.natCast_nonneg, Int.ofNat_lt, Int.ofNat_le, cond_true, cond_false, Int.reduceBEq, Int.reduceBNe, Int.reduceLT, Int.reduceLE, Int.reduceAdd, Int.reduceSub, Int.reduceMul, Int.reduceNeg, Int.reduceEq, Int.reduceNe, Nat.reduceMul, Nat.reduceSub, decide_true, decide_false, not_true_eq_false, not_false_eq_true, Bool.true_and, Bool.false_and, Bool.and_false, aggEq, scEq, hasSh, alS, List.filterMap_nil]
        subst hQ
        simp (disch := first | assumption | omega) only [R.slices_Equal_Cell, e13, e12, e0, e1, eh, go_sem, ↓reduceIte, Nat.reduceEqDiff, reduceCtorEq, Nat.reduceAdd, Nat.reduceLeDiff, Nat.reduceLT, wrapU32, reduceIte, Int.natCast_nonneg, Int.ofNat_lt, Int.ofNat_le, cond_true, cond_false, Int.reduceBEq, Int.reduceBNe, Int.reduceLT, Int.reduceLE, Int.reduceAdd, Int.reduceSub, Int.reduceMul, Int.reduceNeg, Int.reduceEq, Int.reduceNe, Nat.reduceMul, Nat.reduceSub, decide_true, decide_false, not_true_eq_false, not_false_eq_true, Bool.true_and, Bool.false_and, Bool.and_false, aggEq, scEq, hasSh, alS, List.filterMap_nil]
        have : a ≠ b := by
          rintro rfl
          simp at hb
        simp [this, eh]
      · simp (disch := first | assumption | omega) only [e13, e12, e0, e1, eh, go_sem, ↓reduceIte, Nat.reduceEqDiff, reduceCtorEq, Nat.reduceAdd, Nat.reduceLeDiff, Nat.reduceLT, wrapU32, reduceIte, Int.natCast_nonneg, Int.ofNat_lt, Int.ofNat_le, cond_true, cond_false, Int.reduceBEq, Int.reduceBNe, Int.reduceLT, Int.reduceLE, Int.reduceAdd, Int.reduceSub, Int.reduceMul, Int.reduceNeg, Int.reduceEq, Int.reduceNe, Nat.reduceMul, Nat.reduceSub, decide_true, decide_false, not_true_eq_false, not_false_eq_true, Bool.true_and, Bool.false_and, Bool.and_false, aggEq, scEq, hasSh, alS, List.filterMap_nil]
        refine ⟨d - 1, by omega, i + 1, by omega, by simp, ?_⟩
        rw [List.take_add_one, List.take_add_one, ht, List.getElem?_eq_getElem hlt1, List.getElem?_eq_getElem hlt2]
        have : a[i] = b[i] := by
          simp at hb
          cases h1 : a[i]; cases h2 : b[i]; simp_all
        rw [this]
    · obtain rfl : i = a.length := by omega
      simp (disch := first | assumption | omega) only [e13, e12, e0, e1, eh, go_sem, ↓reduceIte, Nat.reduceEqDiff, reduceCtorEq, Nat.reduceAdd, Nat.reduceLeDiff, Nat.reduceLT, wrapU32, reduceIte, Int.natCast_nonneg, Int.ofNat_lt, Int.ofNat_le, cond_true, cond_false, Int.reduceBEq, Int.reduceBNe, Int.reduceLT, Int.reduceLE, Int.reduceAdd, Int.reduceSub, Int.reduceMul, Int.reduceNeg, Int.reduceEq, Int.reduceNe, Nat.reduceMul, Nat.reduceSub, decide_true, decide_false, not_true_eq_false, not_false_eq_true, Bool.true_and, Bool.false_and, Bool.and_false, aggEq, scEq, hasSh, alS, List.filterMap_nil]
      subst hQ
      simp (disch := first | assumption | omega) only [R.slices_Equal_Cell, go_sem, ↓reduceIte, Nat.reduceEqDiff, reduceCtorEq, Nat.reduceAdd, Nat.reduceLeDiff, Nat.reduceLT, wrapU32, reduceIte, Int.natCast_nonneg, Int.ofNat_lt, Int.ofNat_le, cond_true, cond_false, Int.reduceBEq, Int.reduceBNe, Int.reduceLT, Int.reduceLE, Int.reduceAdd, Int.reduceSub, Int.reduceMul, Int.reduceNeg, Int.reduceEq, Int.reduceNe, Nat.reduceMul, Nat.reduceSub, decide_true, decide_false, not_true_eq_false, not_false_eq_true, Bool.true_and, Bool.false_and, Bool.and_false, aggEq, scEq, hasSh, alS, List.filterMap_nil]
      rw [List.take_length, he, List.take_length] at ht
      simp [ht, eh]
  · have hd : ¬((a.length : Int) = b.length) := by omega
    have hd2 : ((a.length : Int) != b.length) = true := by simpa using hd
    simp (disch := first | assumption | omega) only [hd2, go_sem, ↓reduceIte, Nat.reduceEqDiff, reduceCtorEq, Nat.reduceAdd, Nat.reduceLeDiff, Nat.reduceLT, wrapU32, reduceIte, Int.natCast_nonneg, Int.ofNat_lt, Int.ofNat_le, cond_true, cond_false, Int.reduceBEq, Int.reduceBNe, Int.reduceLT, Int.reduceLE, Int.reduceAdd, Int.reduceSub, Int.reduceMul, Int.reduceNeg, Int.reduceEq, Int.reduceNe, Nat.reduceMul, Nat.reduceSub, decide_true, decide_false, not_true_eq_false, not_false_eq_true, Bool.true_and, Bool.false_and, Bool.and_false, aggEq, scEq, hasSh, alS, List.filterMap_nil]
    subst hQ
    simp (disch := first | assumption | omega) only [R.slices_Equal_Cell, go_sem, ↓reduceIte, Nat.reduceEqDiff, reduceCtorEq, Nat.reduceAdd, Nat.reduceLeDiff, Nat.reduceLT, wrapU32, reduceIte, Int.natCast_nonneg, Int.ofNat_lt, Int.ofNat_le, cond_true, cond_false, Int.reduceBEq, Int.reduceBNe, Int.reduceLT, Int.reduceLE, Int.reduceAdd, Int.reduceSub, Int.reduceMul, Int.reduceNeg, Int.reduceEq, Int.reduceNe, Nat.reduceMul, Nat.reduceSub, decide_true, decide_false, not_true_eq_false, not_false_eq_true, Bool.true_and, Bool.false_and, Bool.and_false, aggEq, scEq, hasSh, alS, List.filterMap_nil]
    have : a ≠ b := by rintro rfl; exact he rfl
    simp [this]
theorem Same_ok (o1 o2 : Own) (a b : Msg) (h1 : Rdo o1) (h2 : Rdo o2) (hl : a.Cells.length < 4611686018427387904) (hl2 : b.Cells.length < 4611686018427387904) (h : List HObj) :
    ACalls Try.prog F.msg_Same [msgA o1 a, msgA o2 b] h (fun r h' => r = .bool (decide (a = b)) ∧ h' = h) := by
  refine ACalls.of_aw Try.func47 K.msg_Same (by simp [Try.f47]) ?_
  generalize hQ : retQ R.msg_Same _ = Q
  simp (disch := first | assumption | omega) only [C.msg_Same, go_sem, ↓reduceIte, Nat.reduceEqDiff, reduceCtorEq, Nat.reduceAdd, Nat.reduceLeDiff, Nat.reduceLT, wrapU32, reduceIte, Int.natCast_nonneg, Int.ofNat_lt, Int.ofNat_le, cond_true, cond_false, Int.reduceBEq, Int.reduceBNe, Int.reduceLT, Int.reduceLE, Int.reduceAdd, Int.reduceSub, Int.reduceMul, Int.reduceNeg, Int.reduceEq, Int.reduceNe, Nat.reduceMul, Nat.reduceSub, decide_true, decide_false, not_true_eq_false, not_false_eq_true, Bool.true_and, Bool.false_and, Bool.and_false, aggEq, scEq, hasSh, alS, List.filterMap_nil]
  simp (disch := first | assumption | omega) only [msgA, msgC, go_sem, ↓reduceIte, Nat.reduceEqDiff, reduceCtorEq, Nat.reduceAdd, Nat.reduceLeDiff, Nat.reduceLT, wrapU32, reduceIte, Int.natCast_nonneg, Int.ofNat_lt, Int.ofNat_le, cond_true, cond_false, Int.reduceBEq, Int.reduceBNe, Int.reduceLT, Int.reduceLE, Int.reduceAdd, Int.reduceSub, Int.reduceMul, Int.reduceNeg, Int.reduceEq, Int.reduceNe, Nat.reduceMul, Nat.reduceSub, decide_true, decide_false, not_true_eq_false, not_false_eq_true, Bool.true_and, Bool.false_and, Bool.and_false, aggEq, scEq, hasSh, alS, List.filterMap_nil]
  refine aopsG_split (fun hb1 => ?_) (fun hb1 => ?_)
  rotate_left
  · simp (disch := first | assumption | omega) only [hb1, go_sem, ↓reduceIte, Nat.reduceEqDiff, reduceCtorEq, Nat.reduceAdd, Nat.reduceLeDiff, Nat.reduceLT, wrapU32, reduceIte, Int.natCast_nonneg, Int.ofNat_lt, Int.ofNat_le, cond_true, cond_false, Int.reduceBEq, Int.reduceBNe, Int.reduceLT, Int.reduceLE, Int.reduceAdd, Int.reduceSub, Int.reduceMul, Int.reduceNeg, Int.reduceEq, Int.reduceNe, Nat.reduceMul, Nat.reduceSub, decide_true, decide_false, not_true_eq_false, not_false_eq_true, Bool.true_and, Bool.false_and, Bool.and_false, aggEq, scEq, hasSh, alS, List.filterMap_nil]
    subst hQ
    simp (disch := first | assumption | omega) only [R.msg_Same, go_sem, ↓reduceIte, Nat.reduceEqDiff, reduceCtorEq, Nat.reduceAdd, Nat.reduceLeDiff, Nat.reduceLT, wrapU32, reduceIte, Int.natCast_nonneg, Int.ofNat_lt, Int.ofNat_le, cond_true, cond_false, Int.reduceBEq, Int.reduceBNe, Int.reduceLT, Int.reduceLE, Int.reduceAdd, Int.reduceSub, Int.reduceMul, Int.reduceNeg, Int.reduceEq, Int.reduceNe, Nat.reduceMul, Nat.reduceSub, decide_true, decide_false, not_true_eq_false, not_false_eq_true, Bool.true_and, Bool.false_and, Bool.and_false, aggEq, scEq, hasSh, alS, List.filterMap_nil]
    have : a ≠ b := by rintro rfl; simp at hb1
    simp [this]
  simp (disch := first | assumption | omega) only [hb1, go_sem, ↓reduceIte, Nat.reduceEqDiff, reduceCtorEq, Nat.reduceAdd, Nat.reduceLeDiff, Nat.reduceLT, wrapU32, reduceIte, Int.natCast_nonneg, Int.ofNat_lt, Int.ofNat_le, cond_true, cond_false, Int.reduceBEq, Int.reduceBNe, Int.reduceLT, Int.reduceLE, Int.reduceAdd, Int.reduceSub, Int.reduceMul, Int.reduceNeg, Int.reduceEq, Int.reduceNe, Nat.reduceMul, Nat.reduceSub, decide_true, decide_false, not_true_eq_false, not_false_eq_true, Bool.true_and, Bool.false_and, Bool.and_false, aggEq, scEq, hasSh, alS, List.filterMap_nil]
  refine aopsG_split (fun hb2 => ?_) (fun hb2 => ?_)
  rotate_left
  · simp (disch := first | assumption | omega) only [hb1, hb2, go_sem, ↓reduceIte, Nat.reduceEqDiff, reduceCtorEq, Nat.reduceAdd, Nat.reduceLeDiff, Nat.reduceLT, wrapU32, reduceIte, Int.natCast_nonneg, Int.ofNat_lt, Int.ofNat_le, cond_true, cond_false, Int.reduceBEq, Int.reduceBNe, Int.reduceLT, Int.reduceLE, Int.reduceAdd, Int.reduceSub, Int.reduceMul, Int.reduceNeg, Int.reduceEq, Int.reduceNe, Nat.reduceMul, Nat.reduceSub, decide_true, decide_false, not_true_eq_false, not_false_eq_true, Bool.true_and, Bool.false_and, Bool.and_false, aggEq, scEq, hasSh, alS, List.filterMap_nil]
    subst hQ
    simp (disch := first | assumption | omega) only [R.msg_Same, go_sem, ↓reduceIte, Nat.reduceEqDiff, reduceCtorEq, Nat.reduceAdd, Nat.reduceLeDiff, Nat.reduceLT, wrapU32, reduceIte, Int.natCast_nonneg, Int.ofNat_lt, Int.ofNat_le, cond_true, cond_false, Int.reduceBEq, Int.reduceBNe, Int.reduceLT, Int.reduceLE, Int.reduceAdd, Int.reduceSub, Int.reduceMul, Int.reduceNeg, Int.reduceEq, Int.reduceNe, Nat.reduceMul, Nat.reduceSub, decide_true, decide_false, not_true_eq_false, not_false_eq_true, Bool.true_and, Bool.false_and, Bool.and_false, aggEq, scEq, hasSh, alS, List.filterMap_nil]
    have : a ≠ b := by rintro rfl; simp at hb2
    simp [this]
  simp (disch := first | assumption | omega) only [hb1, hb2, go_sem, ↓reduceIte, Nat.reduceEqDiff, reduceCtorEq, Nat.reduceAdd, Nat.reduceLeDiff, Nat.reduceLT, wrapU32, reduceIte, Int.natCast_nonneg, Int.ofNat_lt, Int.ofNat_le, cond_true, cond_false, Int.reduceBEq, Int.reduceBNe, Int.reduceLT, Int.reduceLE, Int.reduceAdd, Int.reduceSub, Int.reduceMul, Int.reduceNeg, Int.reduceEq, Int.reduceNe, Nat.reduceMul, Nat.reduceSub, decide_true, decide_false, not_true_eq_false, not_false_eq_true, Bool.true_and, Bool.false_and, Bool.and_false, aggEq, scEq, hasSh, alS, List.filterMap_nil]
  refine aopsG_split (fun hb3 => ?_) (fun hb3 => ?_)
  rotate_left
  · simp (disch := first | assumption | omega) only [hb1, hb2, hb3, go_sem, ↓reduceIte, Nat.reduceEqDiff, reduceCtorEq, Nat.reduceAdd, Nat.reduceLeDiff, Nat.reduceLT, wrapU32, reduceIte, Int.natCast_nonneg, Int.ofNat_lt, Int.ofNat_le, cond_true, cond_false, Int.reduceBEq, Int.reduceBNe, Int.reduceLT, Int.reduceLE, Int.reduceAdd, Int.reduceSub, Int.reduceMul, Int.reduceNeg, Int.reduceEq, Int.reduceNe, Nat.reduceMul, Nat.reduceSub, decide_true, decide_false, not_true_eq_false, not_false_eq_true, Bool.true_and, Bool.false_and, Bool.and_false, aggEq, scEq, hasSh, alS, List.filterMap_nil]
    subst hQ
    simp (disch := first | assumption | omega) only [R.msg_Same, go_sem, ↓reduceIte, Nat.reduceEqDiff, reduceCtorEq, Nat.reduceAdd, Nat.reduceLeDiff, Nat.reduceLT, wrapU32, reduceIte, Int.natCast_nonneg, Int.ofNat_lt, Int.ofNat_le, cond_true, cond_false, Int.reduceBEq, Int.reduceBNe, Int.reduceLT, Int.reduceLE, Int.reduceAdd, Int.reduceSub, Int.reduceMul, Int.reduceNeg, Int.reduceEq, Int.reduceNe, Nat.reduceMul, Nat.reduceSub, decide_true, decide_false, not_true_eq_false, not_false_eq_true, Bool.true_and, Bool.false_and, Bool.and_false, aggEq, scEq, hasSh, alS, List.filterMap_nil]
    have : a ≠ b := by rintro rfl; simp at hb3
    simp [this]
  simp (disch := first | assumption | omega) only [hb1, hb2, hb3, go_sem, ↓reduceIte, Nat.reduceEqDiff, reduceCtorEq, Nat.reduceAdd, Nat.reduceLeDiff, Nat.reduceLT, wrapU32, reduceIte, Int.natCast_nonneg, Int.ofNat_lt, Int.ofNat_le, cond_true, cond_false, Int.reduceBEq, Int.reduceBNe, Int.reduceLT, Int.reduceLE, Int.reduceAdd, Int.reduceSub, Int.reduceMul, Int.reduceNeg, Int.reduceEq, Int.reduceNe, Nat.reduceMul, Nat.reduceSub, decide_true, decide_false, not_true_eq_false, not_false_eq_true, Bool.true_and, Bool.false_and, Bool.and_false, aggEq, scEq, hasSh, alS, List.filterMap_nil]
  refine aopsG_split (fun hb4 => ?_) (fun hb4 => ?_)
  rotate_left
  · simp (disch := first | assumption | omega) only [hb1, hb2, hb3, hb4, go_sem, ↓reduceIte, Nat.reduceEqDiff, reduceCtorEq, Nat.reduceAdd, Nat.reduceLeDiff, Nat.reduceLT, wrapU32, reduceIte, Int.natCast_nonneg, Int.ofNat_lt, Int.ofNat_le, cond_true, cond_false, Int.reduceBEq, Int.reduceBNe, Int.reduceLT, Int.reduceLE, Int.reduceAdd, Int.reduceSub, Int.reduceMul, Int.reduceNeg, Int.reduceEq, Int.reduceNe, Nat.reduceMul, Nat.reduceSub, decide_true, decide_false, not_true_eq_false, not_false_eq_true, Bool.true_and, Bool.false_and, Bool.and_false, aggEq, scEq, hasSh, alS, List.filterMap_nil]
    subst hQ
    simp (disch := first | assumption | omega) only [R.msg_Same, go_sem, ↓reduceIte, Nat.reduceEqDiff, reduceCtorEq, Nat.reduceAdd, Nat.reduceLeDiff, Nat.reduceLT, wrapU32, reduceIte, Int.natCast_nonneg, Int.ofNat_lt, Int.ofNat_le, cond_true, cond_false, Int.reduceBEq, Int.reduceBNe, Int.reduceLT, Int.reduceLE, Int.reduceAdd, Int.reduceSub, Int.reduceMul, Int.reduceNeg, Int.reduceEq, Int.reduceNe, Nat.reduceMul, Nat.reduceSub, decide_true, decide_false, not_true_eq_false, not_false_eq_true, Bool.true_and, Bool.false_and, Bool.and_false, aggEq, scEq, hasSh, alS, List.filterMap_nil]
    have : a ≠ b := by rintro rfl; simp at hb4
    simp [this]
  simp (disch := first | assumption | omega) only [hb1, hb2, hb3, hb4, go_sem, ↓reduceIte, Nat.reduceEqDiff, reduceCtorEq, Nat.reduceAdd, Nat.reduceLeDiff, Nat.reduceLT, wrapU32, reduceIte, Int.natCast_nonneg, Int.ofNat_lt, Int.ofNat_le, cond_true, cond_false, Int.reduceBEq, Int.reduceBNe, Int.reduceLT, Int.reduceLE, Int.reduceAdd, Int.reduceSub, Int.reduceMul, Int.reduceNeg, Int.reduceEq, Int.reduceNe, Nat.reduceMul, Nat.reduceSub, decide_true, decide_false, not_true_eq_false, not_false_eq_true, Bool.true_and, Bool.false_and, Bool.and_false, aggEq, scEq, hasSh, alS, List.filterMap_nil]
  refine aopsG_split (fun hb5 => ?_) (fun hb5 => ?_)
  rotate_left
  · simp (disch := first | assumption | omega) only [hb1, hb2, hb3, hb4, hb5, go_sem, ↓reduceIte, Nat.reduceEqDiff, reduceCtorEq, Nat.reduceAdd, Nat.reduceLeDiff, Nat.reduceLT, wrapU32, reduceIte, Int.natCast_nonneg, Int.ofNat_lt, Int.ofNat_le, cond_true, cond_false, Int.reduceBEq, Int.reduceBNe, Int.reduceLT, Int.reduceLE, Int.reduceAdd, Int.reduceSub, Int.reduceMul, Int.reduceNeg, Int.reduceEq, Int.reduceNe, Nat.reduceMul, Nat.reduceSub, decide_true, decide_false, not_true_eq_false, not_false_eq_true, Bool.true_and, Bool.false_and, Bool.and_false, aggEq, scEq, hasSh, alS, List.filterMap_nil]
    subst hQ
    simp (disch := first | assumption | omega) only [R.msg_Same, go_sem, ↓reduceIte, Nat.reduceEqDiff, reduceCtorEq, Nat.reduceAdd, Nat.reduceLeDiff, Nat.reduceLT, wrapU32, reduceIte, Int.natCast_nonneg, Int.ofNat_lt, Int.ofNat_le, cond_true, cond_false, Int.reduceBEq, Int.reduceBNe, Int.reduceLT, Int.reduceLE, Int.reduceAdd, Int.reduceSub, Int.reduceMul, Int.reduceNeg, Int.reduceEq, Int.reduceNe, Nat.reduceMul, Nat.reduceSub, decide_true, decide_false, not_true_eq_false, not_false_eq_true, Bool.true_and, Bool.false_and, Bool.and_false, aggEq, scEq, hasSh, alS, List.filterMap_nil]
    have : a ≠ b := by rintro rfl; simp at hb5
    simp [this]
  simp (disch := first | assumption | omega) only [hb1, hb2, hb3, hb4, hb5, go_sem, ↓reduceIte, Nat.reduceEqDiff, reduceCtorEq, Nat.reduceAdd, Nat.reduceLeDiff, Nat.reduceLT, wrapU32, reduceIte, Int.natCast_nonneg, Int.ofNat_lt, Int.ofNat_le, cond_true, cond_false, Int.reduceBEq, Int.reduceBNe, Int.reduceLT, Int.reduceLE, Int.reduceAdd, Int.reduceSub, Int.reduceMul, Int.reduceNeg, Int.reduceEq, Int.reduceNe, Nat.reduceMul, Nat.reduceSub, decide_true, decide_false, not_true_eq_false, not_false_eq_true, Bool.true_and, Bool.false_and, Bool.and_false, aggEq, scEq, hasSh, alS, List.filterMap_nil]
  refine callG_ok (EqualCell_ok o1 o2 a.Cells b.Cells h1 h2 hl hl2 _) (by simp (disch := first | assumption | omega) only [go_sem, ↓reduceIte, Nat.reduceEqDiff, reduceCtorEq, Nat.reduceAdd, Nat.reduceLeDiff, Nat.reduceLT, wrapU32, reduceIte, Int.natCast_nonneg, Int.ofNat_lt, Int.ofNat_le, cond_true, cond_false, Int.reduceBEq, Int.reduceBNe, Int.reduceLT, Int.reduceLE, Int.reduceAdd, Int.reduceSub, Int.reduceMul, Int.reduceNeg, Int.reduceEq, Int.reduceNe, Nat.reduceMul, Nat.reduceSub, decide_true, decide_false, not_true_eq_false, not_false_eq_true, Bool.true_and, Bool.false_and, Bool.and_false, aggEq, scEq, hasSh, alS, List.filterMap_nil]) ?_
  rintro _ _ ⟨rfl, hhh⟩
  try rw [hhh]
  clear hhh
  simp (disch := first | assumption | omega) only [go_sem, ↓reduceIte, Nat.reduceEqDiff, reduceCtorEq, Nat.reduceAdd, Nat.reduceLeDiff, Nat.reduceLT, wrapU32, reduceIte, Int.natCast_nonneg, Int.ofNat_lt, Int.ofNat_le, cond_true, cond_false, Int.reduceBEq, Int.reduceBNe, Int.reduceLT, Int.reduceLE, Int.reduceAdd, Int.reduceSub, Int.reduceMul, Int.reduceNeg, Int.reduceEq, Int.reduceNe, Nat.reduceMul, Nat.reduceSub, decide_true, decide_false, not_true_eq_false, not_false_eq_true, Bool.true_and, Bool.false_and, Bool.and_false, aggEq, scEq, hasSh, alS, List.filterMap_nil]
  subst hQ
  simp (disch := first | assumption | omega) only [R.msg_Same, go_sem, ↓reduceIte, Nat.reduceEqDiff, reduceCtorEq, Nat.reduceAdd, Nat.reduceLeDiff, Nat.reduceLT, wrapU32, reduceIte, Int.natCast_nonneg, Int.ofNat_lt, Int.ofNat_le, cond_true, cond_false, Int.reduceBEq, Int.reduceBNe, Int.reduceLT, Int.reduceLE, Int.reduceAdd, Int.reduceSub, Int.reduceMul, Int.reduceNeg, Int.reduceEq, Int.reduceNe, Nat.reduceMul, Nat.reduceSub, decide_true, decide_false, not_true_eq_false, not_false_eq_true, Bool.true_and, Bool.false_and, Bool.and_false, aggEq, scEq, hasSh, alS, List.filterMap_nil]
  have : decide (a.Cells = b.Cells) = decide (a = b) := by
    cases a; cases b; simp at hb1 hb2 hb3 hb4 hb5; simp_all
  rw [this]
end Go.Proofs.Ytpdajkbfemcdlaa
/- Annotated code of functions, checked against the program. -/
namespace Go.Proofs.Ytpdajkbfemcdlaa
open Go.Ge
/-- slices.insertionSortCmpFunc[gantry/api.Cell] -/
def C.slices_insertionSortCmpFunc_Cell : ACode :=
  .seq (.region [
    ⟨some 10, .move false (.t 1), none⟩, 
    ⟨some 11, .bin .add (.t 10) (.c (.int .i64 1)), none⟩, 
    ⟨some 8, .move false (.t 11), none⟩]) (
  .block 0 (.loop (.seq (.seq (.region [
    ⟨some 12, .move false (.t 8), none⟩, 
    ⟨some 13, .move false (.t 2), none⟩, 
    ⟨some 14, .bin .lss (.t 12) (.t 13), none⟩]) (
  .cond (.t 14) (.skip) (.exit 0))) (
  .seq (.block 1 (.seq (.region [
    ⟨some 17, .move false (.t 8), none⟩, 
    ⟨some 9, .move false (.t 17), none⟩]) (
  .block 2 (.loop (.seq (.seq (.drawn [0, 1, 2, 3, 4, 5, 6, 7, 8, 9, 10, 11, 12, 13, 14, 15, 16] [0, 0, 3, 7, 15, 15, 15, 111, 239, 15, 15, 1039, 3599, 7695, 16383, 32767, 65535] [
    ⟨some 18, .move false (.t 9), none⟩, 
    ⟨some 19, .move false (.t 1), none⟩, 
    ⟨some 20, .bin .gtr (.t 18) (.t 19), none⟩, 
    ⟨some 21, .move false (.t 20), none⟩, 
    ⟨some 22, .move false (.t 3), (some (21, true))⟩, 
    ⟨some 23, .move false (.t 0), (some (21, true))⟩, 
    ⟨some 24, .move false (.t 9), (some (21, true))⟩, 
    ⟨some 25, .iaddr 2 (.t 23) (.t 24), (some (21, true))⟩, 
    ⟨some 26, .load 2 true 2 (.t 25), (some (21, true))⟩, 
    ⟨some 27, .move false (.t 0), (some (21, true))⟩, 
    ⟨some 28, .move false (.t 9), (some (21, true))⟩, 
    ⟨some 29, .bin .sub (.t 28) (.c (.int .i64 1)), (some (21, true))⟩, 
    ⟨some 30, .iaddr 2 (.t 27) (.t 29), (some (21, true))⟩, 
    ⟨some 31, .load 2 true 2 (.t 30), (some (21, true))⟩, 
    ⟨some 32, .hop (.callvq (.t 22) [(.t 26), (.t 31)]), (some (21, true))⟩, 
    ⟨some 33, .bin .lss (.t 32) (.c (.int .i64 0)), (some (21, true))⟩, 
    ⟨some 34, .pick (.t 21) (.t 33) (.c (.bool false)), none⟩]) (
  .cond (.t 34) (.skip) (.exit 2))) (
  .seq (.block 3 (.drawn [0, 1, 2, 3, 4, 5, 6, 7, 8, 9, 10, 11, 12, 13, 14, 15, 16, 17] [0, 0, 0, 0, 8, 0, 0, 64, 224, 480, 0, 0, 3072, 7168, 16355, 32739, 65535, 131071] [
    ⟨some 37, .move false (.t 0), none⟩, 
    ⟨some 38, .move false (.t 9), none⟩, 
    ⟨some 39, .move false (.t 0), none⟩, 
    ⟨some 40, .move false (.t 9), none⟩, 
    ⟨some 41, .bin .sub (.t 40) (.c (.int .i64 1)), none⟩, 
    ⟨some 42, .move false (.t 0), none⟩, 
    ⟨some 43, .move false (.t 9), none⟩, 
    ⟨some 44, .bin .sub (.t 43) (.c (.int .i64 1)), none⟩, 
    ⟨some 45, .iaddr 2 (.t 42) (.t 44), none⟩, 
    ⟨some 46, .load 2 true 2 (.t 45), none⟩, 
    ⟨some 47, .move false (.t 0), none⟩, 
    ⟨some 48, .move false (.t 9), none⟩, 
    ⟨some 49, .iaddr 2 (.t 47) (.t 48), none⟩, 
    ⟨some 50, .load 2 true 2 (.t 49), none⟩, 
    ⟨some 51, .iaddr 2 (.t 37) (.t 38), none⟩, 
    ⟨none, .store 2 (.t 51) (.t 46), none⟩, 
    ⟨some 52, .iaddr 2 (.t 39) (.t 41), none⟩, 
    ⟨none, .store 2 (.t 52) (.t 50), none⟩])) (
  .region [
    ⟨some 35, .move false (.t 9), none⟩, 
    ⟨some 36, .bin .sub (.t 35) (.c (.int .i64 1)), none⟩, 
    ⟨some 9, .move false (.t 36), none⟩]))))))) (
  .region [
    ⟨some 15, .move false (.t 8), none⟩, 
    ⟨some 16, .bin .add (.t 15) (.c (.int .i64 1)), none⟩, 
    ⟨some 8, .move false (.t 16), none⟩])))))
def R.slices_insertionSortCmpFunc_Cell : List ARes := []
set_option maxRecDepth 100000 in
theorem K.slices_insertionSortCmpFunc_Cell : ckFun Try.prog Try.f219 C.slices_insertionSortCmpFunc_Cell R.slices_insertionSortCmpFunc_Cell = true := by kernel_rfl
/-- slices.pdqsortCmpFunc[gantry/api.Cell] -/
def C.slices_pdqsortCmpFunc_Cell : ACode :=
  .seq (.region [
    ⟨some 10, .move false (.c (.bool true)), none⟩]) (
  .seq (.region [
    ⟨some 11, .move false (.c (.bool true)), none⟩]) (
  .block 0 (.loop (.block 1 (.seq (.region [
    ⟨some 21, .move false (.t 2), none⟩, 
    ⟨some 22, .move false (.t 1), none⟩, 
    ⟨some 23, .bin .sub (.t 21) (.t 22), none⟩, 
    ⟨some 12, .move false (.t 23), none⟩]) (
  .seq (.seq (.region [
    ⟨some 24, .move false (.t 12), none⟩, 
    ⟨some 25, .bin .leq (.t 24) (.c (.int .i64 12)), none⟩]) (
  .cond (.t 25) (.seq (.region [
    ⟨some 26, .move false (.t 0), none⟩, 
    ⟨some 27, .move false (.t 1), none⟩, 
    ⟨some 28, .move false (.t 2), none⟩, 
    ⟨some 29, .move false (.t 4), none⟩, 
    ⟨some 30, .call true F.slices_insertionSortCmpFunc_Cell [(.t 26), (.t 27), (.t 28), (.t 29)], none⟩]) (
  .ret)) (.skip))) (
  .seq (.seq (.halt) (
  .halt)) (
  .seq (.seq (.halt) (
  .halt)) (
  .seq (.halt) (
  .seq (.seq (.halt) (
  .halt)) (
  .seq (.seq (.halt) (
  .halt)) (
  .seq (.seq (.halt) (
  .halt)) (
  .seq (.halt) (
  .seq (.halt) (
  .seq (.halt) (
  .seq (.halt) (
  .seq (.halt) (
  .halt))))))))))))))))))
def R.slices_pdqsortCmpFunc_Cell : List ARes := []
set_option maxRecDepth 100000 in
theorem K.slices_pdqsortCmpFunc_Cell : ckFun Try.prog Try.f203 C.slices_pdqsortCmpFunc_Cell R.slices_pdqsortCmpFunc_Cell = true := by kernel_rfl
/-- slices.SortFunc[[]gantry/api.Cell,gantry/api.Cell] -/
def C.slices_SortFunc_Cell : ACode :=
  .seq (.region [
    ⟨some 5, .move false (.t 0), none⟩, 
    ⟨some 6, .len (.t 5), none⟩, 
    ⟨some 4, .move false (.t 6), none⟩]) (
  .region [
    ⟨some 7, .move false (.t 0), none⟩, 
    ⟨some 8, .move false (.t 4), none⟩, 
    ⟨some 9, .move false (.t 4), none⟩, 
    ⟨some 10, .conv .u64 (.t 9), none⟩, 
    ⟨some 11, .call true F.bits_Len [(.t 10)], none⟩, 
    ⟨some 12, .move false (.t 1), none⟩, 
    ⟨some 13, .call true F.slices_pdqsortCmpFunc_Cell [(.t 7), (.c (.int .i64 0)), (.t 8), (.t 11), (.t 12)], none⟩])
def R.slices_SortFunc_Cell : List ARes := []
set_option maxRecDepth 100000 in
theorem K.slices_SortFunc_Cell : ckFun Try.prog Try.f180 C.slices_SortFunc_Cell R.slices_SortFunc_Cell = true := by kernel_rfl
/-- math/bits.Len -/
def C.bits_Len : ACode :=
  .seq (.region [
    ⟨some 2, .move false (.c (.int .i64 0)), none⟩]) (
  .seq (.cond (.c (.bool false)) (.seq (.region [
    ⟨some 3, .move false (.t 0), none⟩, 
    ⟨some 4, .conv .u32 (.t 3), none⟩, 
    ⟨some 5, .call true F.bits_Len32 [(.t 4)], none⟩, 
    ⟨some 2, .move false (.t 5), none⟩]) (
  .ret)) (.skip)) (
  .seq (.region [
    ⟨some 6, .move false (.t 0), none⟩, 
    ⟨some 7, .call true F.bits_Len64 [(.t 6)], none⟩, 
    ⟨some 2, .move false (.t 7), none⟩]) (
  .ret)))
def R.bits_Len : List ARes := [.t 2]
set_option maxRecDepth 100000 in
theorem K.bits_Len : ckFun Try.prog Try.f204 C.bits_Len R.bits_Len = true := by kernel_rfl
/-- math/bits.Len64 -/
def C.bits_Len64 : ACode :=
  .seq (.region [
    ⟨some 2, .move false (.c (.int .i64 0)), none⟩]) (
  .seq (.seq (.region [
    ⟨some 3, .move false (.t 0), none⟩, 
    ⟨some 4, .bin .geq (.t 3) (.c (.int .u64 4294967296)), none⟩]) (
  .cond (.t 4) (.seq (.region [
    ⟨some 5, .move false (.t 0), none⟩, 
    ⟨some 6, .bin .shr (.t 5) (.c (.int .u64 32)), none⟩, 
    ⟨some 0, .move false (.t 6), none⟩]) (
  .region [
    ⟨some 2, .move false (.c (.int .i64 32)), none⟩])) (.skip))) (
  .seq (.seq (.region [
    ⟨some 7, .move false (.t 0), none⟩, 
    ⟨some 8, .bin .geq (.t 7) (.c (.int .u64 65536)), none⟩]) (
  .cond (.t 8) (.seq (.region [
    ⟨some 9, .move false (.t 0), none⟩, 
    ⟨some 10, .bin .shr (.t 9) (.c (.int .u64 16)), none⟩, 
    ⟨some 0, .move false (.t 10), none⟩]) (
  .region [
    ⟨some 11, .move false (.t 2), none⟩, 
    ⟨some 12, .bin .add (.t 11) (.c (.int .i64 16)), none⟩, 
    ⟨some 2, .move false (.t 12), none⟩])) (.skip))) (
  .seq (.seq (.region [
    ⟨some 13, .move false (.t 0), none⟩, 
    ⟨some 14, .bin .geq (.t 13) (.c (.int .u64 256)), none⟩]) (
  .cond (.t 14) (.seq (.region [
    ⟨some 15, .move false (.t 0), none⟩, 
    ⟨some 16, .bin .shr (.t 15) (.c (.int .u64 8)), none⟩, 
    ⟨some 0, .move false (.t 16), none⟩]) (
  .region [
    ⟨some 17, .move false (.t 2), none⟩, 
    ⟨some 18, .bin .add (.t 17) (.c (.int .i64 8)), none⟩, 
    ⟨some 2, .move false (.t 18), none⟩])) (.skip))) (
  .seq (.region [
    ⟨some 19, .move false (.t 2), none⟩, 
    ⟨some 20, .move false (.t 0), none⟩, 
    ⟨some 21, .conv .u8 (.t 20), none⟩, 
    ⟨some 22, .idx (.c (.str ⟨#[0, 1, 2, 2, 3, 3, 3, 3, 4, 4, 4, 4, 4, 4, 4, 4, 5, 5, 5, 5, 5, 5, 5, 5, 5, 5, 5, 5, 5, 5, 5, 5, 6, 6, 6, 6, 6, 6, 6, 6, 6, 6, 6, 6, 6, 6, 6, 6, 6, 6, 6, 6, 6, 6, 6, 6, 6, 6, 6, 6, 6, 6, 6, 6, 7, 7, 7, 7, 7, 7, 7, 7, 7, 7, 7, 7, 7, 7, 7, 7, 7, 7, 7, 7, 7, 7, 7, 7, 7, 7, 7, 7, 7, 7, 7, 7, 7, 7, 7, 7, 7, 7, 7, 7, 7, 7, 7, 7, 7, 7, 7, 7, 7, 7, 7, 7, 7, 7, 7, 7, 7, 7, 7, 7, 7, 7, 7, 7, 8, 8, 8, 8, 8, 8, 8, 8, 8, 8, 8, 8, 8, 8, 8, 8, 8, 8, 8, 8, 8, 8, 8, 8, 8, 8, 8, 8, 8, 8, 8, 8, 8, 8, 8, 8, 8, 8, 8, 8, 8, 8, 8, 8, 8, 8, 8, 8, 8, 8, 8, 8, 8, 8, 8, 8, 8, 8, 8, 8, 8, 8, 8, 8, 8, 8, 8, 8, 8, 8, 8, 8, 8, 8, 8, 8, 8, 8, 8, 8, 8, 8, 8, 8, 8, 8, 8, 8, 8, 8, 8, 8, 8, 8, 8, 8, 8, 8, 8, 8, 8, 8, 8, 8, 8, 8, 8, 8, 8, 8, 8, 8, 8, 8, 8, 8, 8, 8, 8, 8, 8, 8, 8, 8, 8, 8, 8, 8]⟩)) (.t 21), none⟩, 
    ⟨some 23, .conv .i64 (.t 22), none⟩, 
    ⟨some 24, .bin .add (.t 19) (.t 23), none⟩, 
    ⟨some 2, .move false (.t 24), none⟩]) (
  .ret)))))
def R.bits_Len64 : List ARes := [.t 2]
set_option maxRecDepth 100000 in
theorem K.bits_Len64 : ckFun Try.prog Try.f228 C.bits_Len64 R.bits_Len64 = true := by kernel_rfl
/-- gantry/gantmake.Cells -/
def C.gantmake_Cells : ACode :=
  .seq (.region [
    ⟨some 2, .move false (.c (.lst .nil [])), none⟩]) (
  .seq (.region [
    ⟨some 6, .move false (.t 0), none⟩, 
    ⟨some 7, .build [(.lst .nil [])] [(0, 1, (.t 6))], none⟩, 
    ⟨some 8, .bx true (.t 7), none⟩, 
    ⟨some 3, .move false (.t 8), none⟩]) (
  .seq (.prom 8 (.region [
    ⟨some 4, .move false (.c (.lst .nil [])), none⟩])) (
  .seq (.seq (.region [
    ⟨some 9, .move false (.t 3), none⟩, 
    ⟨some 10, .call true F.gantmake_Stream_Next [(.t 9), (.c (.int .i64 9))], none⟩, 
    ⟨some 11, .move false (.c (.int .i64 0)), none⟩]) (
  .block 0 (.loop (.seq (.region [
    ⟨some 12, .bin .lss (.t 11) (.t 10), none⟩]) (
  .seq (.cond (.t 12) (.skip) (.exit 0)) (
  .seq (.block 1 (.seq (.region [
    ⟨some 13, .move false (.t 3), none⟩, 
    ⟨some 14, .call true F.gantmake_Stream_Next [(.t 13), (.c (.int .i64 8))], none⟩, 
    ⟨some 15, .bin .sub (.t 14) (.c (.int .i64 4)), none⟩, 
    ⟨some 16, .move false (.t 3), none⟩, 
    ⟨some 17, .call true F.gantmake_Stream_Next [(.t 16), (.c (.int .i64 8))], none⟩, 
    ⟨some 18, .bin .sub (.t 17) (.c (.int .i64 4)), none⟩, 
    ⟨some 19, .build [(.int .i64 0), (.int .i64 0)] [(0, 1, (.t 15)), (1, 1, (.t 18))], none⟩, 
    ⟨some 5, .alloc false [(.int .i64 0), (.int .i64 0)], none⟩, 
    ⟨none, .store 2 (.t 5) (.t 19), none⟩]) (
  .seq (.thaw 4 (.region [
    ⟨some 20, .move false (.t 4), none⟩, 
    ⟨some 21, .load 2 true 2 (.t 5), none⟩, 
    ⟨some 22, .call true F.slices_Contains_Cell [(.t 20), (.t 21)], none⟩, 
    ⟨some 23, .un .not (.t 22), none⟩])) (
  .cond (.t 23) (.region [
    ⟨some 24, .move true (.t 4), none⟩, 
    ⟨some 25, .load 2 true 2 (.t 5), none⟩, 
    ⟨some 26, .buildS false 2 [(.t 25)], none⟩, 
    ⟨some 27, .hop (.appendR 2 16 (.t 24) (.t 26)), none⟩, 
    ⟨some 4, .move false (.t 27), none⟩]) (.skip))))) (
  .own 4 true 2 (.region [
    ⟨some 28, .bin .add (.t 11) (.c (.int .i64 1)), none⟩, 
    ⟨some 11, .move false (.t 28), none⟩])))))))) (
  .seq (.thaw 4 (.region [
    ⟨some 29, .move false (.t 4), none⟩, 
    ⟨some 30, .call true F.slices_SortFunc_Cell [(.t 29), (.c (.func 181 []))], none⟩])) (
  .seq (.own 4 true 2 (.grab 4 (.region [
    ⟨some 31, .move true (.t 4), none⟩, 
    ⟨some 2, .move true (.t 31), none⟩]))) (
  .ret))))))
def R.gantmake_Cells : List ARes := [.t 2]
set_option maxRecDepth 100000 in
theorem K.gantmake_Cells : ckFun Try.prog Try.f111 C.gantmake_Cells R.gantmake_Cells = true := by kernel_rfl
/-- gantry/gantmake.Cells$1 -/
def C.gantmake_Cells_1 : ACode :=
  .seq (.region [
    ⟨some 2, .bx false (.t 0), none⟩, 
    ⟨some 3, .bx false (.t 1), none⟩, 
    ⟨some 4, .move false (.c (.int .i64 0)), none⟩]) (
  .seq (.seq (.region [
    ⟨some 5, .faddr 1 (.t 2), none⟩, 
    ⟨some 6, .load 2 false 1 (.t 5), none⟩, 
    ⟨some 7, .faddr 1 (.t 3), none⟩, 
    ⟨some 8, .load 2 false 1 (.t 7), none⟩, 
    ⟨some 9, .bin .neq (.t 6) (.t 8), none⟩]) (
  .cond (.t 9) (.seq (.region [
    ⟨some 10, .faddr 1 (.t 2), none⟩, 
    ⟨some 11, .load 2 false 1 (.t 10), none⟩, 
    ⟨some 12, .faddr 1 (.t 3), none⟩, 
    ⟨some 13, .load 2 false 1 (.t 12), none⟩, 
    ⟨some 14, .bin .sub (.t 11) (.t 13), none⟩, 
    ⟨some 4, .move false (.t 14), none⟩]) (
  .ret)) (.skip))) (
  .seq (.region [
    ⟨some 15, .faddr 0 (.t 2), none⟩, 
    ⟨some 16, .load 2 false 1 (.t 15), none⟩, 
    ⟨some 17, .faddr 0 (.t 3), none⟩, 
    ⟨some 18, .load 2 false 1 (.t 17), none⟩, 
    ⟨some 19, .bin .sub (.t 16) (.t 18), none⟩, 
    ⟨some 4, .move false (.t 19), none⟩]) (
  .ret)))
def R.gantmake_Cells_1 : List ARes := [.t 4]
set_option maxRecDepth 100000 in
theorem K.gantmake_Cells_1 : ckFun Try.prog Try.f181 C.gantmake_Cells_1 R.gantmake_Cells_1 = true := by kernel_rfl
/-- (*gantry/gantmake.Stream).Next -/
def C.gantmake_Stream_Next : ACode :=
  .seq (.region [
    ⟨some 4, .move false (.c (.int .i64 0)), none⟩]) (
  .seq (.seq (.region [
    ⟨some 6, .move false (.t 0), none⟩, 
    ⟨some 7, .nilck (.t 6), none⟩, 
    ⟨some 8, .faddr 0 (.t 7), none⟩, 
    ⟨some 9, .load 2 false 1 (.t 8), none⟩, 
    ⟨some 10, .len (.t 9), none⟩, 
    ⟨some 11, .bin .eql (.t 10) (.c (.int .i64 0)), none⟩, 
    ⟨some 12, .move false (.t 11), none⟩, 
    ⟨some 13, .move false (.t 1), (some (12, false))⟩, 
    ⟨some 14, .bin .lss (.t 13) (.c (.int .i64 1)), (some (12, false))⟩, 
    ⟨some 15, .pick (.t 12) (.c (.bool true)) (.t 14), none⟩]) (
  .cond (.t 15) (.seq (.region [
    ⟨some 4, .move false (.c (.int .i64 0)), none⟩]) (
  .ret)) (.skip))) (
  .seq (.region [
    ⟨some 16, .move false (.t 0), none⟩, 
    ⟨some 17, .nilck (.t 16), none⟩, 
    ⟨some 18, .faddr 0 (.t 17), none⟩, 
    ⟨some 19, .load 2 false 1 (.t 18), none⟩, 
    ⟨some 20, .iaddr 1 (.t 19) (.c (.int .i64 0)), none⟩, 
    ⟨some 21, .load 2 false 1 (.t 20), none⟩, 
    ⟨some 5, .move false (.t 21), none⟩]) (
  .seq (.region [
    ⟨some 22, .move false (.t 0), none⟩, 
    ⟨some 23, .move false (.t 0), none⟩, 
    ⟨some 24, .nilck (.t 23), none⟩, 
    ⟨some 25, .faddr 0 (.t 24), none⟩, 
    ⟨some 26, .load 2 false 1 (.t 25), none⟩, 
    ⟨some 27, .slice 1 (.t 26) (some (.c (.int .i64 1))) none none, none⟩, 
    ⟨some 28, .nilck (.t 22), none⟩, 
    ⟨some 29, .faddr 0 (.t 28), none⟩, 
    ⟨none, .store 1 (.t 29) (.t 27), none⟩]) (
  .seq (.region [
    ⟨some 30, .move false (.t 5), none⟩, 
    ⟨some 31, .move false (.t 1), none⟩, 
    ⟨some 32, .call true F.gantmake_Below [(.t 30), (.t 31)], none⟩, 
    ⟨some 4, .move false (.t 32), none⟩]) (
  .ret)))))
def R.gantmake_Stream_Next : List ARes := [.t 4]
set_option maxRecDepth 100000 in
theorem K.gantmake_Stream_Next : ckFun Try.prog Try.f161 C.gantmake_Stream_Next R.gantmake_Stream_Next = true := by kernel_rfl
/-- gantry/gantmake.Msg -/
def C.gantmake_Msg : ACode :=
  .seq (.region [
    ⟨some 2, .alloc false [(.int .i64 0), (.int .i64 0), (.int .i64 0), (.int .i64 0), (.int .u32 0), (.lst .nil [])], none⟩]) (
  .seq (.region [
    ⟨some 5, .move false (.t 0), none⟩, 
    ⟨some 6, .build [(.lst .nil [])] [(0, 1, (.t 5))], none⟩, 
    ⟨some 7, .bx true (.t 6), none⟩, 
    ⟨some 3, .move false (.t 7), none⟩]) (
  .seq (.prom 7 (.region [
    ⟨some 8, .move false (.t 3), none⟩, 
    ⟨some 9, .call true F.gantmake_Stream_Next [(.t 8), (.c (.int .i64 4))], none⟩, 
    ⟨some 10, .move false (.t 3), none⟩, 
    ⟨some 11, .call true F.gantmake_Stream_Next [(.t 10), (.c (.int .i64 4))], none⟩, 
    ⟨some 12, .move false (.t 3), none⟩, 
    ⟨some 13, .call true F.gantmake_Stream_Next [(.t 12), (.c (.int .i64 4))], none⟩, 
    ⟨some 14, .move false (.t 3), none⟩, 
    ⟨some 15, .call true F.gantmake_Stream_Next [(.t 14), (.c (.int .i64 1000))], none⟩, 
    ⟨some 16, .move false (.t 3), none⟩, 
    ⟨some 17, .call true F.gantmake_Stream_Next [(.t 16), (.c (.int .i64 4294967296))], none⟩, 
    ⟨some 18, .conv .u32 (.t 17), none⟩, 
    ⟨some 19, .build [(.int .i64 0), (.int .i64 0), (.int .i64 0), (.int .i64 0), (.int .u32 0), (.lst .nil [])] [(0, 1, (.t 9)), (1, 1, (.t 11)), (2, 1, (.t 13)), (3, 1, (.t 15)), (4, 1, (.t 18))], none⟩, 
    ⟨some 4, .alloc false [(.int .i64 0), (.int .i64 0), (.int .i64 0), (.int .i64 0), (.int .u32 0), (.lst .nil [])], none⟩, 
    ⟨none, .store 6 (.t 4) (.t 19), none⟩])) (
  .seq (.seq (.region [
    ⟨some 20, .faddr 0 (.t 4), none⟩, 
    ⟨some 21, .load 2 false 1 (.t 20), none⟩, 
    ⟨some 22, .bin .neq (.t 21) (.c (.int .i64 3)), none⟩]) (
  .cond (.t 22) (.region [
    ⟨some 23, .move false (.t 3), none⟩, 
    ⟨some 24, .nilck (.t 23), none⟩, 
    ⟨some 25, .faddr 0 (.t 24), none⟩, 
    ⟨some 26, .load 2 false 1 (.t 25), none⟩, 
    ⟨some 27, .call true F.gantmake_Cells [(.t 26)], none⟩, 
    ⟨some 28, .faddr 5 (.t 4), none⟩, 
    ⟨none, .store 1 (.t 28) (.t 27), none⟩]) (.skip))) (
  .seq (.region [
    ⟨some 29, .load 2 true 6 (.t 4), none⟩, 
    ⟨none, .store 6 (.t 2) (.t 29), none⟩]) (
  .ret)))))
def R.gantmake_Msg : List ARes := [.c 2 true 6]
set_option maxRecDepth 100000 in
theorem K.gantmake_Msg : ckFun Try.prog Try.f80 C.gantmake_Msg R.gantmake_Msg = true := by kernel_rfl
/-- slices.Contains[[]gantry/api.Cell,gantry/api.Cell] -/
def C.slices_Contains_Cell : ACode :=
  .seq (.region [
    ⟨some 3, .bx false (.t 1), none⟩, 
    ⟨some 4, .move false (.c (.bool false)), none⟩]) (
  .seq (.region [
    ⟨some 5, .move false (.t 0), none⟩, 
    ⟨some 6, .load 2 true 2 (.t 3), none⟩, 
    ⟨some 7, .call true F.slices_Index_Cell [(.t 5), (.t 6)], none⟩, 
    ⟨some 8, .bin .geq (.t 7) (.c (.int .i64 0)), none⟩, 
    ⟨some 4, .move false (.t 8), none⟩]) (
  .ret))
def R.slices_Contains_Cell : List ARes := [.t 4]
set_option maxRecDepth 100000 in
theorem K.slices_Contains_Cell : ckFun Try.prog Try.f179 C.slices_Contains_Cell R.slices_Contains_Cell = true := by kernel_rfl
/-- slices.Index[[]gantry/api.Cell,gantry/api.Cell] -/
def C.slices_Index_Cell : ACode :=
  .seq (.region [
    ⟨some 3, .bx false (.t 1), none⟩, 
    ⟨some 4, .move false (.c (.int .i64 0)), none⟩]) (
  .seq (.seq (.region [
    ⟨some 6, .move false (.t 0), none⟩, 
    ⟨some 7, .len (.t 6), none⟩, 
    ⟨some 8, .move false (.c (.int .i64 0)), none⟩]) (
  .block 0 (.loop (.seq (.region [
    ⟨some 9, .bin .lss (.t 8) (.t 7), none⟩]) (
  .seq (.cond (.t 9) (.skip) (.exit 0)) (
  .seq (.block 1 (.seq (.region [
    ⟨some 10, .move false (.t 8), none⟩, 
    ⟨some 5, .move false (.t 10), none⟩]) (
  .seq (.drawn [0, 1, 2, 3, 4, 5] [0, 0, 0, 6, 14, 31] [
    ⟨some 11, .load 1 true 2 (.t 3), none⟩, 
    ⟨some 12, .move false (.t 0), none⟩, 
    ⟨some 13, .move false (.t 5), none⟩, 
    ⟨some 14, .iaddr 2 (.t 12) (.t 13), none⟩, 
    ⟨some 15, .load 2 true 2 (.t 14), none⟩, 
    ⟨some 16, .eqs false [.i .i64, .i .i64] (.t 11) (.t 15), none⟩]) (
  .cond (.t 16) (.seq (.region [
    ⟨some 17, .move false (.t 5), none⟩, 
    ⟨some 4, .move false (.t 17), none⟩]) (
  .ret)) (.skip))))) (
  .region [
    ⟨some 18, .bin .add (.t 8) (.c (.int .i64 1)), none⟩, 
    ⟨some 8, .move false (.t 18), none⟩]))))))) (
  .seq (.region [
    ⟨some 4, .move false (.c (.int .i64 (-1))), none⟩]) (
  .ret)))
def R.slices_Index_Cell : List ARes := [.t 4]
set_option maxRecDepth 100000 in
theorem K.slices_Index_Cell : ckFun Try.prog Try.f202 C.slices_Index_Cell R.slices_Index_Cell = true := by kernel_rfl
end Go.Proofs.Ytpdajkbfemcdlaa
/- Annotated code of functions, checked against the program. -/
namespace Go.Proofs.Ytpdajkbfemcdlaa
open Go.Ge
/-- gantry/msg.Write -/
def C.msg_Write : ACode :=
  .seq (.region [
    ⟨some 1, .bx true (.t 0), none⟩, 
    ⟨some 2, .move false (.c (.lst .nil [])), none⟩, 
    ⟨some 3, .move false (.c (.int .i64 0)), none⟩]) (
  .seq (.seq (.region [
    ⟨some 8, .load 2 true 6 (.t 1), none⟩, 
    ⟨some 9, .call true F.msg_Check [(.t 8)], none⟩, 
    ⟨some 4, .move false (.t 9), none⟩]) (
  .seq (.region [
    ⟨some 10, .move false (.t 4), none⟩, 
    ⟨some 11, .bin .neq (.t 10) (.c (.int .i64 0)), none⟩]) (
  .cond (.t 11) (.seq (.region [
    ⟨some 12, .move false (.t 4), none⟩, 
    ⟨some 2, .move false (.c (.lst .nil [])), none⟩, 
    ⟨some 3, .move false (.t 12), none⟩]) (
  .ret)) (.skip)))) (
  .seq (.region [
    ⟨some 13, .faddr 0 (.t 1), none⟩, 
    ⟨some 14, .load 2 false 1 (.t 13), none⟩, 
    ⟨some 15, .conv .u8 (.t 14), none⟩, 
    ⟨some 16, .faddr 1 (.t 1), none⟩, 
    ⟨some 17, .load 2 false 1 (.t 16), none⟩, 
    ⟨some 18, .conv .u8 (.t 17), none⟩, 
    ⟨some 19, .faddr 2 (.t 1), none⟩, 
    ⟨some 20, .load 2 false 1 (.t 19), none⟩, 
    ⟨some 21, .conv .u8 (.t 20), none⟩, 
    ⟨some 22, .buildS false 1 [(.t 15), (.t 18), (.t 21)], none⟩, 
    ⟨some 5, .move true (.t 22), none⟩]) (
  .seq (.drawn [1, 2, 3, 6, 7, 0, 4, 5, 8, 9, 10] [0, 0, 2, 6, 14, 31, 0, 64, 255, 511, 1023] [
    ⟨some 24, .faddr 3 (.t 1), none⟩, 
    ⟨some 25, .load 1 false 1 (.t 24), none⟩, 
    ⟨some 26, .conv .u32 (.t 25), none⟩, 
    ⟨some 29, .faddr 4 (.t 1), none⟩, 
    ⟨some 30, .load 1 false 1 (.t 29), none⟩, 
    ⟨some 23, .move true (.t 5), none⟩, 
    ⟨some 27, .call false F.msg_four [(.t 26)], none⟩, 
    ⟨some 28, .append 1 1 (.t 23) (.t 27), none⟩, 
    ⟨some 31, .call false F.msg_four [(.t 30)], none⟩, 
    ⟨some 32, .append 1 1 (.t 28) (.t 31), none⟩, 
    ⟨some 5, .move true (.t 32), none⟩]) (
  .seq (.region [
    ⟨some 33, .move true (.t 5), none⟩, 
    ⟨some 34, .faddr 5 (.t 1), none⟩, 
    ⟨some 35, .load 2 false 1 (.t 34), none⟩, 
    ⟨some 36, .len (.t 35), none⟩, 
    ⟨some 37, .bin .shr (.t 36) (.c (.int .u64 8)), none⟩, 
    ⟨some 38, .conv .u8 (.t 37), none⟩, 
    ⟨some 39, .faddr 5 (.t 1), none⟩, 
    ⟨some 40, .load 2 false 1 (.t 39), none⟩, 
    ⟨some 41, .len (.t 40), none⟩, 
    ⟨some 42, .conv .u8 (.t 41), none⟩, 
    ⟨some 43, .buildS false 1 [(.t 38), (.t 42)], none⟩, 
    ⟨some 44, .append 1 1 (.t 33) (.t 43), none⟩, 
    ⟨some 5, .move true (.t 44), none⟩]) (
  .seq (.seq (.region [
    ⟨some 45, .faddr 5 (.t 1), none⟩, 
    ⟨some 46, .load 2 false 1 (.t 45), none⟩, 
    ⟨some 47, .len (.t 46), none⟩, 
    ⟨some 48, .move false (.c (.int .i64 0)), none⟩]) (
  .block 0 (.loop (.seq (.region [
    ⟨some 49, .bin .lss (.t 48) (.t 47), none⟩]) (
  .seq (.cond (.t 49) (.skip) (.exit 0)) (
  .seq (.block 1 (.seq (.region [
    ⟨some 50, .iaddr 2 (.t 46) (.t 48), none⟩, 
    ⟨some 51, .load 2 true 2 (.t 50), none⟩, 
    ⟨some 7, .alloc false [(.int .i64 0), (.int .i64 0)], none⟩, 
    ⟨none, .store 2 (.t 7) (.t 51), none⟩]) (
  .region [
    ⟨some 52, .move true (.t 5), none⟩, 
    ⟨some 53, .faddr 0 (.t 7), none⟩, 
    ⟨some 54, .load 2 false 1 (.t 53), none⟩, 
    ⟨some 55, .bin .add (.t 54) (.c (.int .i64 64)), none⟩, 
    ⟨some 56, .conv .u8 (.t 55), none⟩, 
    ⟨some 57, .faddr 1 (.t 7), none⟩, 
    ⟨some 58, .load 2 false 1 (.t 57), none⟩, 
    ⟨some 59, .bin .add (.t 58) (.c (.int .i64 64)), none⟩, 
    ⟨some 60, .conv .u8 (.t 59), none⟩, 
    ⟨some 61, .buildS false 1 [(.t 56), (.t 60)], none⟩, 
    ⟨some 62, .append 1 1 (.t 52) (.t 61), none⟩, 
    ⟨some 5, .move true (.t 62), none⟩]))) (
  .region [
    ⟨some 63, .bin .add (.t 48) (.c (.int .i64 1)), none⟩, 
    ⟨some 48, .move false (.t 63), none⟩]))))))) (
  .seq (.region [
    ⟨some 64, .move true (.t 5), none⟩, 
    ⟨some 65, .move false (.t 5), none⟩, 
    ⟨some 66, .call true F.msg_Sum [(.t 65)], none⟩, 
    ⟨some 67, .call true F.msg_four [(.t 66)], none⟩, 
    ⟨some 68, .append 1 1 (.t 64) (.t 67), none⟩, 
    ⟨some 2, .move true (.t 68), none⟩, 
    ⟨some 3, .move false (.c (.int .i64 0)), none⟩]) (
  .ret)))))))
def R.msg_Write : List ARes := [.t 2, .t 3]
set_option maxRecDepth 100000 in
theorem K.msg_Write : ckFun Try.prog Try.f73 C.msg_Write R.msg_Write = true := by kernel_rfl
/-- gantry/msg.four -/
def C.msg_four : ACode :=
  .seq (.region [
    ⟨some 2, .move false (.c (.lst .nil [])), none⟩]) (
  .seq (.region [
    ⟨some 3, .move false (.t 0), none⟩, 
    ⟨some 4, .bin .shr (.t 3) (.c (.int .u64 24)), none⟩, 
    ⟨some 5, .conv .u8 (.t 4), none⟩, 
    ⟨some 6, .move false (.t 0), none⟩, 
    ⟨some 7, .bin .shr (.t 6) (.c (.int .u64 16)), none⟩, 
    ⟨some 8, .conv .u8 (.t 7), none⟩, 
    ⟨some 9, .move false (.t 0), none⟩, 
    ⟨some 10, .bin .shr (.t 9) (.c (.int .u64 8)), none⟩, 
    ⟨some 11, .conv .u8 (.t 10), none⟩, 
    ⟨some 12, .move false (.t 0), none⟩, 
    ⟨some 13, .conv .u8 (.t 12), none⟩, 
    ⟨some 14, .buildS false 1 [(.t 5), (.t 8), (.t 11), (.t 13)], none⟩, 
    ⟨some 2, .move true (.t 14), none⟩]) (
  .ret))
def R.msg_four : List ARes := [.t 2]
set_option maxRecDepth 100000 in
theorem K.msg_four : ckFun Try.prog Try.f157 C.msg_four R.msg_four = true := by kernel_rfl
/-- gantry/msg.number -/
def C.msg_number : ACode :=
  .seq (.region [
    ⟨some 2, .move false (.c (.int .u32 0)), none⟩]) (
  .seq (.region [
    ⟨some 3, .move false (.c (.int .u32 0)), none⟩]) (
  .seq (.seq (.region [
    ⟨some 6, .move false (.t 0), none⟩, 
    ⟨some 7, .len (.t 6), none⟩, 
    ⟨some 8, .move false (.c (.int .i64 0)), none⟩]) (
  .block 0 (.loop (.seq (.region [
    ⟨some 9, .bin .lss (.t 8) (.t 7), none⟩]) (
  .seq (.cond (.t 9) (.skip) (.exit 0)) (
  .seq (.block 1 (.seq (.region [
    ⟨some 10, .iaddr 1 (.t 6) (.t 8), none⟩, 
    ⟨some 11, .load 2 false 1 (.t 10), none⟩, 
    ⟨some 5, .move false (.t 11), none⟩]) (
  .region [
    ⟨some 12, .move false (.t 3), none⟩, 
    ⟨some 13, .bin .shl (.t 12) (.c (.int .u64 8)), none⟩, 
    ⟨some 14, .move false (.t 5), none⟩, 
    ⟨some 15, .conv .u32 (.t 14), none⟩, 
    ⟨some 16, .bin .or (.t 13) (.t 15), none⟩, 
    ⟨some 3, .move false (.t 16), none⟩]))) (
  .region [
    ⟨some 17, .bin .add (.t 8) (.c (.int .i64 1)), none⟩, 
    ⟨some 8, .move false (.t 17), none⟩]))))))) (
  .seq (.region [
    ⟨some 18, .move false (.t 3), none⟩, 
    ⟨some 2, .move false (.t 18), none⟩]) (
  .ret))))
def R.msg_number : List ARes := [.t 2]
set_option maxRecDepth 100000 in
theorem K.msg_number : ckFun Try.prog Try.f159 C.msg_number R.msg_number = true := by kernel_rfl
/-- gantry/msg.Read -/
def C.msg_Read : ACode :=
  .seq (.region [
    ⟨some 2, .alloc false [(.int .i64 0), (.int .i64 0), (.int .i64 0), (.int .i64 0), (.int .u32 0), (.lst .nil [])], none⟩, 
    ⟨some 3, .move false (.c (.int .i64 0)), none⟩]) (
  .seq (.seq (.region [
    ⟨some 8, .move false (.t 0), none⟩, 
    ⟨some 9, .len (.t 8), none⟩, 
    ⟨some 10, .bin .lss (.t 9) (.c (.int .i64 17)), none⟩]) (
  .cond (.t 10) (.seq (.region [
    ⟨some 11, .build [(.int .i64 0), (.int .i64 0), (.int .i64 0), (.int .i64 0), (.int .u32 0), (.lst .nil [])] [], none⟩, 
    ⟨none, .store 6 (.t 2) (.t 11), none⟩, 
    ⟨some 3, .move false (.c (.int .i64 14)), none⟩]) (
  .ret)) (.skip))) (
  .seq (.region [
    ⟨some 12, .move false (.t 0), none⟩, 
    ⟨some 13, .slice 1 (.t 12) (some (.c (.int .i64 11))) (some (.c (.int .i64 13))) none, none⟩, 
    ⟨some 14, .call true F.msg_number [(.t 13)], none⟩, 
    ⟨some 15, .conv .i64 (.t 14), none⟩, 
    ⟨some 4, .move false (.t 15), none⟩]) (
  .seq (.block 0 (.seq (.region [
    ⟨some 17, .move false (.t 0), none⟩, 
    ⟨some 18, .len (.t 17), none⟩, 
    ⟨some 19, .move false (.t 4), none⟩, 
    ⟨some 20, .bin .mul (.c (.int .i64 2)) (.t 19), none⟩, 
    ⟨some 21, .bin .add (.c (.int .i64 17)) (.t 20), none⟩, 
    ⟨some 22, .bin .lss (.t 18) (.t 21), none⟩, 
    ⟨some 16, .move false (.t 22), none⟩]) (
  .cond (.t 16) (.seq (.region [
    ⟨some 23, .build [(.int .i64 0), (.int .i64 0), (.int .i64 0), (.int .i64 0), (.int .u32 0), (.lst .nil [])] [], none⟩, 
    ⟨none, .store 6 (.t 2) (.t 23), none⟩, 
    ⟨some 3, .move false (.c (.int .i64 14)), none⟩]) (
  .ret)) (.seq (.region [
    ⟨some 25, .move false (.t 0), none⟩, 
    ⟨some 26, .len (.t 25), none⟩, 
    ⟨some 27, .move false (.t 4), none⟩, 
    ⟨some 28, .bin .mul (.c (.int .i64 2)) (.t 27), none⟩, 
    ⟨some 29, .bin .add (.c (.int .i64 17)) (.t 28), none⟩, 
    ⟨some 30, .bin .gtr (.t 26) (.t 29), none⟩, 
    ⟨some 24, .move false (.t 30), none⟩]) (
  .cond (.t 24) (.seq (.region [
    ⟨some 31, .build [(.int .i64 0), (.int .i64 0), (.int .i64 0), (.int .i64 0), (.int .u32 0), (.lst .nil [])] [], none⟩, 
    ⟨none, .store 6 (.t 2) (.t 31), none⟩, 
    ⟨some 3, .move false (.c (.int .i64 3)), none⟩]) (
  .ret)) (.seq (.drawn [0, 1, 2, 3, 4, 6, 7, 8, 9, 10, 5, 11, 12, 13] [0, 0, 2, 6, 15, 31, 0, 0, 128, 384, 960, 2047, 4095, 8191] [
    ⟨some 33, .move false (.t 0), none⟩, 
    ⟨some 34, .move false (.t 4), none⟩, 
    ⟨some 35, .bin .mul (.c (.int .i64 2)) (.t 34), none⟩, 
    ⟨some 36, .bin .add (.c (.int .i64 13)) (.t 35), none⟩, 
    ⟨some 37, .slice 1 (.t 33) (some (.t 36)) none none, none⟩, 
    ⟨some 39, .move false (.t 0), none⟩, 
    ⟨some 40, .move false (.t 4), none⟩, 
    ⟨some 41, .bin .mul (.c (.int .i64 2)) (.t 40), none⟩, 
    ⟨some 42, .bin .add (.c (.int .i64 13)) (.t 41), none⟩, 
    ⟨some 43, .slice 1 (.t 39) none (some (.t 42)) none, none⟩, 
    ⟨some 38, .call false F.msg_number [(.t 37)], none⟩, 
    ⟨some 44, .call false F.msg_Sum [(.t 43)], none⟩, 
    ⟨some 45, .bin .neq (.t 38) (.t 44), none⟩, 
    ⟨some 32, .move false (.t 45), none⟩]) (
  .cond (.t 32) (.seq (.region [
    ⟨some 46, .build [(.int .i64 0), (.int .i64 0), (.int .i64 0), (.int .i64 0), (.int .u32 0), (.lst .nil [])] [], none⟩, 
    ⟨none, .store 6 (.t 2) (.t 46), none⟩, 
    ⟨some 3, .move false (.c (.int .i64 13)), none⟩]) (
  .ret)) (.skip)))))))) (
  .seq (.drawn [0, 1, 2, 3, 4, 5, 6, 7, 8, 9, 10, 11, 12, 13, 16, 17, 14, 15, 18, 19, 20, 21] [0, 1, 3, 7, 0, 16, 48, 112, 0, 256, 768, 1792, 0, 4096, 12288, 28672, 0, 65536, 225280, 524287, 0, 2097151] [
    ⟨some 47, .move false (.t 0), none⟩, 
    ⟨some 48, .iaddr 1 (.t 47) (.c (.int .i64 0)), none⟩, 
    ⟨some 49, .load 0 false 1 (.t 48), none⟩, 
    ⟨some 50, .conv .i64 (.t 49), none⟩, 
    ⟨some 51, .move false (.t 0), none⟩, 
    ⟨some 52, .iaddr 1 (.t 51) (.c (.int .i64 1)), none⟩, 
    ⟨some 53, .load 0 false 1 (.t 52), none⟩, 
    ⟨some 54, .conv .i64 (.t 53), none⟩, 
    ⟨some 55, .move false (.t 0), none⟩, 
    ⟨some 56, .iaddr 1 (.t 55) (.c (.int .i64 2)), none⟩, 
    ⟨some 57, .load 0 false 1 (.t 56), none⟩, 
    ⟨some 58, .conv .i64 (.t 57), none⟩, 
    ⟨some 59, .move false (.t 0), none⟩, 
    ⟨some 60, .slice 1 (.t 59) (some (.c (.int .i64 3))) (some (.c (.int .i64 7))) none, none⟩, 
    ⟨some 63, .move false (.t 0), none⟩, 
    ⟨some 64, .slice 1 (.t 63) (some (.c (.int .i64 7))) (some (.c (.int .i64 11))) none, none⟩, 
    ⟨some 61, .call false F.msg_number [(.t 60)], none⟩, 
    ⟨some 62, .conv .i64 (.t 61), none⟩, 
    ⟨some 65, .call false F.msg_number [(.t 64)], none⟩, 
    ⟨some 66, .build [(.int .i64 0), (.int .i64 0), (.int .i64 0), (.int .i64 0), (.int .u32 0), (.lst .nil [])] [(0, 1, (.t 50)), (1, 1, (.t 54)), (2, 1, (.t 58)), (3, 1, (.t 62)), (4, 1, (.t 65))], none⟩, 
    ⟨some 5, .alloc true [(.int .i64 0), (.int .i64 0), (.int .i64 0), (.int .i64 0), (.int .u32 0), (.lst .nil [])], none⟩, 
    ⟨none, .store 6 (.t 5) (.t 66), none⟩]) (
  .seq (.seq (.region [
    ⟨some 67, .move false (.t 4), none⟩, 
    ⟨some 68, .move false (.c (.int .i64 0)), none⟩]) (
  .block 1 (.loop (.seq (.region [
    ⟨some 69, .bin .lss (.t 68) (.t 67), none⟩]) (
  .seq (.cond (.t 69) (.skip) (.exit 1)) (
  .seq (.block 2 (.seq (.region [
    ⟨some 70, .move false (.t 68), none⟩, 
    ⟨some 6, .move false (.t 70), none⟩]) (
  .drawn [0, 2, 3, 4, 5, 6, 7, 8, 9, 10, 11, 12, 13, 14, 15, 16, 17, 18, 19, 1, 20, 21, 22] [0, 1, 0, 0, 8, 24, 60, 124, 252, 508, 0, 0, 2048, 6144, 15360, 31744, 64512, 130048, 262140, 524284, 1048575, 2097151, 4194303] [
    ⟨some 71, .faddr 5 (.t 5), none⟩, 
    ⟨some 73, .move false (.t 0), none⟩, 
    ⟨some 74, .move false (.t 6), none⟩, 
    ⟨some 75, .bin .mul (.c (.int .i64 2)) (.t 74), none⟩, 
    ⟨some 76, .bin .add (.c (.int .i64 13)) (.t 75), none⟩, 
    ⟨some 77, .iaddr 1 (.t 73) (.t 76), none⟩, 
    ⟨some 78, .load 0 false 1 (.t 77), none⟩, 
    ⟨some 79, .conv .i64 (.t 78), none⟩, 
    ⟨some 80, .bin .sub (.t 79) (.c (.int .i64 64)), none⟩, 
    ⟨some 81, .move false (.t 0), none⟩, 
    ⟨some 82, .move false (.t 6), none⟩, 
    ⟨some 83, .bin .mul (.c (.int .i64 2)) (.t 82), none⟩, 
    ⟨some 84, .bin .add (.c (.int .i64 14)) (.t 83), none⟩, 
    ⟨some 85, .iaddr 1 (.t 81) (.t 84), none⟩, 
    ⟨some 86, .load 0 false 1 (.t 85), none⟩, 
    ⟨some 87, .conv .i64 (.t 86), none⟩, 
    ⟨some 88, .bin .sub (.t 87) (.c (.int .i64 64)), none⟩, 
    ⟨some 89, .build [(.int .i64 0), (.int .i64 0)] [(0, 1, (.t 80)), (1, 1, (.t 88))], none⟩, 
    ⟨some 90, .buildS false 2 [(.t 89)], none⟩, 
    ⟨some 72, .loadT (.t 71), none⟩, 
    ⟨some 91, .append 2 16 (.t 72) (.t 90), none⟩, 
    ⟨some 92, .faddr 5 (.t 5), none⟩, 
    ⟨none, .store 1 (.t 92) (.t 91), none⟩]))) (
  .region [
    ⟨some 93, .bin .add (.t 68) (.c (.int .i64 1)), none⟩, 
    ⟨some 68, .move false (.t 93), none⟩]))))))) (
  .seq (.seq (.region [
    ⟨some 94, .load 2 true 6 (.t 5), none⟩, 
    ⟨some 95, .call true F.msg_Check [(.t 94)], none⟩, 
    ⟨some 7, .move false (.t 95), none⟩]) (
  .seq (.region [
    ⟨some 96, .move false (.t 7), none⟩, 
    ⟨some 97, .bin .neq (.t 96) (.c (.int .i64 0)), none⟩]) (
  .cond (.t 97) (.seq (.region [
    ⟨some 98, .build [(.int .i64 0), (.int .i64 0), (.int .i64 0), (.int .i64 0), (.int .u32 0), (.lst .nil [])] [], none⟩, 
    ⟨some 99, .move false (.t 7), none⟩, 
    ⟨none, .store 6 (.t 2) (.t 98), none⟩, 
    ⟨some 3, .move false (.t 99), none⟩]) (
  .ret)) (.skip)))) (
  .seq (.region [
    ⟨some 100, .load 2 true 6 (.t 5), none⟩, 
    ⟨none, .store 6 (.t 2) (.t 100), none⟩, 
    ⟨some 3, .move false (.c (.int .i64 0)), none⟩]) (
  .ret))))))))
def R.msg_Read : List ARes := [.c 2 true 6, .t 3]
set_option maxRecDepth 100000 in
theorem K.msg_Read : ckFun Try.prog Try.f77 C.msg_Read R.msg_Read = true := by kernel_rfl
end Go.Proofs.Ytpdajkbfemcdlaa
/- Annotated code of functions, checked against the program. -/
namespace Go.Proofs.Ytpdajkbfemcdlaa
open Go.Ge
/-- gantry/ganttop.TopLogs -/
def C.ganttop_TopLogs : ACode :=
  .seq (.region [
    ⟨some 4, .move false (.c (.bool false)), none⟩]) (
  .seq (.seq (.region [
    ⟨some 25, .buildS false 1 [(.c (.int .u8 1))], none⟩, 
    ⟨some 26, .call true F.log_Add [(.c (.lst .nil [])), (.t 25)], none⟩, 
    ⟨some 24, .move false (.t 26), none⟩, 
    ⟨some 27, .ext 0 (.t 24), none⟩, 
    ⟨some 28, .ext 1 (.t 24), none⟩, 
    ⟨some 5, .move false (.t 27), none⟩, 
    ⟨some 6, .move false (.t 28), none⟩]) (
  .seq (.region [
    ⟨some 29, .move false (.t 6), none⟩, 
    ⟨some 30, .bin .neq (.t 29) (.c (.int .i64 0)), none⟩, 
    ⟨some 31, .move false (.t 30), none⟩, 
    ⟨some 32, .move false (.t 5), (some (31, false))⟩, 
    ⟨some 33, .len (.t 32), (some (31, false))⟩, 
    ⟨some 34, .bin .neq (.t 33) (.c (.int .i64 7)), (some (31, false))⟩, 
    ⟨some 35, .pick (.t 31) (.c (.bool true)) (.t 34), none⟩]) (
  .cond (.t 35) (.seq (.region [
    ⟨some 4, .move false (.c (.bool false)), none⟩]) (
  .ret)) (.skip)))) (
  .seq (.region [
    ⟨some 7, .move false (.c (.lst .nil [])), none⟩]) (
  .seq (.region [
    ⟨some 8, .move false (.c (.lst .nil [])), none⟩]) (
  .seq (.region [
    ⟨some 36, .buildS false 1 [(.c (.int .i64 0))], none⟩, 
    ⟨some 9, .move true (.t 36), none⟩]) (
  .seq (.seq (.region [
    ⟨some 37, .move false (.t 0), none⟩, 
    ⟨some 38, .move false (.t 0), none⟩, 
    ⟨some 39, .len (.t 38), none⟩, 
    ⟨some 40, .mn (.t 39) [(.c (.int .i64 12))], none⟩, 
    ⟨some 41, .slice 1 (.t 37) none (some (.t 40)) none, none⟩, 
    ⟨some 42, .len (.t 41), none⟩, 
    ⟨some 43, .move false (.c (.int .i64 0)), none⟩]) (
  .block 0 (.loop (.seq (.region [
    ⟨some 44, .bin .lss (.t 43) (.t 42), none⟩]) (
  .seq (.cond (.t 44) (.skip) (.exit 0)) (
  .seq (.block 1 (.seq (.region [
    ⟨some 45, .move false (.t 43), none⟩, 
    ⟨some 46, .iaddr 1 (.t 41) (.t 43), none⟩, 
    ⟨some 47, .load 2 false 1 (.t 46), none⟩, 
    ⟨some 10, .move false (.t 45), none⟩, 
    ⟨some 11, .move false (.t 47), none⟩]) (
  .seq (.region [
    ⟨some 48, .move false (.t 11), none⟩, 
    ⟨some 49, .call true F.gantmake_Msg [(.t 48)], none⟩, 
    ⟨some 12, .alloc false [(.int .i64 0), (.int .i64 0), (.int .i64 0), (.int .i64 0), (.int .u32 0), (.lst .nil [])], none⟩, 
    ⟨none, .store 6 (.t 12) (.t 49), none⟩]) (
  .seq (.region [
    ⟨some 50, .move false (.t 10), none⟩, 
    ⟨some 51, .faddr 3 (.t 12), none⟩, 
    ⟨none, .store 1 (.t 51) (.t 50), none⟩]) (
  .seq (.region [
    ⟨some 53, .load 2 true 6 (.t 12), none⟩, 
    ⟨some 54, .call true F.msg_Write [(.t 53)], none⟩, 
    ⟨some 52, .move false (.t 54), none⟩, 
    ⟨some 55, .ext 0 (.t 52), none⟩, 
    ⟨some 56, .ext 1 (.t 52), none⟩, 
    ⟨some 13, .move false (.t 55), none⟩, 
    ⟨some 14, .move false (.t 56), none⟩]) (
  .seq (.seq (.region [
    ⟨some 57, .move false (.t 14), none⟩, 
    ⟨some 58, .bin .neq (.t 57) (.c (.int .i64 0)), none⟩]) (
  .cond (.t 58) (.exit 1) (.skip))) (
  .seq (.region [
    ⟨some 60, .move false (.t 7), none⟩, 
    ⟨some 61, .move false (.t 13), none⟩, 
    ⟨some 62, .call true F.log_Add [(.t 60), (.t 61)], none⟩, 
    ⟨some 59, .move false (.t 62), none⟩, 
    ⟨some 63, .ext 0 (.t 59), none⟩, 
    ⟨some 64, .ext 1 (.t 59), none⟩, 
    ⟨some 15, .move false (.t 63), none⟩, 
    ⟨some 16, .move false (.t 64), none⟩]) (
  .seq (.seq (.region [
    ⟨some 65, .move false (.t 16), none⟩, 
    ⟨some 66, .bin .neq (.t 65) (.c (.int .i64 0)), none⟩]) (
  .cond (.t 66) (.seq (.region [
    ⟨some 4, .move false (.c (.bool false)), none⟩]) (
  .ret)) (.skip))) (
  .region [
    ⟨some 67, .move false (.t 15), none⟩, 
    ⟨some 68, .move true (.t 8), none⟩, 
    ⟨some 69, .load 2 true 6 (.t 12), none⟩, 
    ⟨some 70, .buildS false 6 [(.t 69)], none⟩, 
    ⟨some 71, .append 6 64 (.t 68) (.t 70), none⟩, 
    ⟨some 72, .move true (.t 9), none⟩, 
    ⟨some 73, .move false (.t 15), none⟩, 
    ⟨some 74, .len (.t 73), none⟩, 
    ⟨some 75, .buildS false 1 [(.t 74)], none⟩, 
    ⟨some 76, .append 1 8 (.t 72) (.t 75), none⟩, 
    ⟨some 7, .move false (.t 67), none⟩, 
    ⟨some 8, .move true (.t 71), none⟩, 
    ⟨some 9, .move true (.t 76), none⟩]))))))))) (
  .region [
    ⟨some 77, .bin .add (.t 43) (.c (.int .i64 1)), none⟩, 
    ⟨some 43, .move false (.t 77), none⟩]))))))) (
  .seq (.region [
    ⟨some 78, .move false (.t 1), none⟩, 
    ⟨some 79, .move false (.t 7), none⟩, 
    ⟨some 80, .len (.t 79), none⟩, 
    ⟨some 81, .bin .add (.t 80) (.c (.int .i64 1)), none⟩, 
    ⟨some 82, .call true F.gantmake_Below [(.t 78), (.t 81)], none⟩, 
    ⟨some 1, .move false (.t 82), none⟩]) (
  .seq (.region [
    ⟨some 84, .move false (.t 7), none⟩, 
    ⟨some 85, .move false (.t 1), none⟩, 
    ⟨some 86, .slice 1 (.t 84) none (some (.t 85)) none, none⟩, 
    ⟨some 87, .call true F.log_Read [(.t 86)], none⟩, 
    ⟨some 83, .move false (.t 87), none⟩, 
    ⟨some 88, .ext 0 (.t 83), none⟩, 
    ⟨some 89, .ext 1 (.t 83), none⟩, 
    ⟨some 17, .move false (.t 88), none⟩, 
    ⟨some 18, .move false (.t 89), none⟩]) (
  .seq (.region [
    ⟨some 19, .move false (.c (.int .i64 0)), none⟩]) (
  .seq (.block 2 (.loop (.seq (.seq (.region [
    ⟨some 90, .move false (.t 19), none⟩, 
    ⟨some 91, .move false (.t 8), none⟩, 
    ⟨some 92, .len (.t 91), none⟩, 
    ⟨some 93, .bin .lss (.t 90) (.t 92), none⟩, 
    ⟨some 94, .move false (.t 93), none⟩, 
    ⟨some 95, .move false (.t 9), (some (94, true))⟩, 
    ⟨some 96, .move false (.t 19), (some (94, true))⟩, 
    ⟨some 97, .bin .add (.t 96) (.c (.int .i64 1)), (some (94, true))⟩, 
    ⟨some 98, .iaddr 1 (.t 95) (.t 97), (some (94, true))⟩, 
    ⟨some 99, .load 2 false 1 (.t 98), (some (94, true))⟩, 
    ⟨some 100, .move false (.t 1), (some (94, true))⟩, 
    ⟨some 101, .bin .leq (.t 99) (.t 100), (some (94, true))⟩, 
    ⟨some 102, .pick (.t 94) (.t 101) (.c (.bool false)), none⟩]) (
  .cond (.t 102) (.skip) (.exit 2))) (
  .block 3 (.region [
    ⟨some 103, .move false (.t 19), none⟩, 
    ⟨some 104, .bin .add (.t 103) (.c (.int .i64 1)), none⟩, 
    ⟨some 19, .move false (.t 104), none⟩]))))) (
  .seq (.seq (.region [
    ⟨some 105, .move false (.t 17), none⟩, 
    ⟨some 106, .len (.t 105), none⟩, 
    ⟨some 107, .move false (.t 19), none⟩, 
    ⟨some 108, .bin .neq (.t 106) (.t 107), none⟩, 
    ⟨some 109, .move false (.t 108), none⟩, 
    ⟨some 110, .move false (.t 18), (some (109, false))⟩, 
    ⟨some 111, .move false (.t 9), (some (109, false))⟩, 
    ⟨some 112, .move false (.t 19), (some (109, false))⟩, 
    ⟨some 113, .iaddr 1 (.t 111) (.t 112), (some (109, false))⟩, 
    ⟨some 114, .load 2 false 1 (.t 113), (some (109, false))⟩, 
    ⟨some 115, .bin .neq (.t 110) (.t 114), (some (109, false))⟩, 
    ⟨some 116, .pick (.t 109) (.c (.bool true)) (.t 115), none⟩]) (
  .cond (.t 116) (.seq (.region [
    ⟨some 4, .move false (.c (.bool false)), none⟩]) (
  .ret)) (.skip))) (
  .seq (.seq (.region [
    ⟨some 117, .move false (.t 17), none⟩, 
    ⟨some 118, .len (.t 117), none⟩, 
    ⟨some 119, .move false (.c (.int .i64 0)), none⟩]) (
  .block 4 (.loop (.seq (.region [
    ⟨some 120, .bin .lss (.t 119) (.t 118), none⟩]) (
  .seq (.cond (.t 120) (.skip) (.exit 4)) (
  .seq (.block 5 (.seq (.region [
    ⟨some 121, .move false (.t 119), none⟩, 
    ⟨some 122, .iaddr 1 (.t 117) (.t 119), none⟩, 
    ⟨some 123, .load 2 false 1 (.t 122), none⟩, 
    ⟨some 20, .move false (.t 121), none⟩, 
    ⟨some 21, .move false (.t 123), none⟩]) (
  .seq (.region [
    ⟨some 125, .move false (.t 21), none⟩, 
    ⟨some 126, .call true F.msg_Read [(.t 125)], none⟩, 
    ⟨some 124, .moveX 126, none⟩, 
    ⟨some 127, .extT 0 124, none⟩, 
    ⟨some 128, .ext 1 (.t 124), none⟩, 
    ⟨some 22, .alloc false [(.int .i64 0), (.int .i64 0), (.int .i64 0), (.int .i64 0), (.int .u32 0), (.lst .nil [])], none⟩, 
    ⟨none, .store 6 (.t 22) (.t 127), none⟩, 
    ⟨some 23, .move false (.t 128), none⟩]) (
  .seq (.drawn [0, 1, 2, 3, 4, 5, 6, 7, 8, 9, 10] [0, 1, 3, 7, 7, 7, 55, 119, 255, 511, 1023] [
    ⟨some 129, .move false (.t 23), none⟩, 
    ⟨some 130, .bin .neq (.t 129) (.c (.int .i64 0)), none⟩, 
    ⟨some 131, .move false (.t 130), none⟩, 
    ⟨some 132, .load 1 true 6 (.t 22), (some (131, false))⟩, 
    ⟨some 133, .move false (.t 8), (some (131, false))⟩, 
    ⟨some 134, .move false (.t 20), (some (131, false))⟩, 
    ⟨some 135, .iaddr 6 (.t 133) (.t 134), (some (131, false))⟩, 
    ⟨some 136, .load 0 true 6 (.t 135), (some (131, false))⟩, 
    ⟨some 137, .call false F.msg_Same [(.t 132), (.t 136)], (some (131, false))⟩, 
    ⟨some 138, .un .not (.t 137), (some (131, false))⟩, 
    ⟨some 139, .pick (.t 131) (.c (.bool true)) (.t 138), none⟩]) (
  .cond (.t 139) (.seq (.region [
    ⟨some 4, .move false (.c (.bool false)), none⟩]) (
  .ret)) (.skip)))))) (
  .region [
    ⟨some 140, .bin .add (.t 119) (.c (.int .i64 1)), none⟩, 
    ⟨some 119, .move false (.t 140), none⟩]))))))) (
  .seq (.region [
    ⟨some 4, .move false (.c (.bool true)), none⟩]) (
  .ret)))))))))))))
def R.ganttop_TopLogs : List ARes := [.t 4]
set_option maxRecDepth 100000 in
theorem K.ganttop_TopLogs : ckFun Try.prog Try.f14 C.ganttop_TopLogs R.ganttop_TopLogs = true := by kernel_rfl
end Go.Proofs.Ytpdajkbfemcdlaa
