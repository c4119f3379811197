/- Contracts: sums of bytes. -/
import Derived.Test.YtpdajkbfemcdlaaGeD
import Derived.Test.YtpdajkbfemcdlaaCa
import Derived.Test.YtpdajkbfemcdlaaCm
set_option linter.unusedSimpArgs false
set_option linter.unusedVariables false
set_option maxRecDepth 10000
namespace Go.Proofs.Ytpdajkbfemcdlaa
open Go.Ge
theorem poly_and (b : BitVec 32) : b >>> 1 ^^^ bv 3988292384 * (b &&& bv 1) = rnd b := rfl
theorem sumFrom_take (b : BitVec 32) (l : List Int) (i : Nat) (h : i < l.length) : sumFrom b (l.take (i + 1)) = sumStep (sumFrom b (l.take i)) l[i] := by
  unfold sumFrom
  rw [List.take_add_one, List.getElem?_eq_getElem h]
  simp only [Option.toList, List.foldl_append, List.foldl_cons, List.foldl_nil]
theorem Sum_ok (o : Own) (l : List Int) (ho : Rdo o) (hb : ∀ x ∈ l, inU8 x) (hl : l.length < 4611686018427387904) (h : List HObj) :
    ACalls Try.prog F.msg_Sum [.lst o (ints .u8 l)] h (fun r h' => r = .int .u32 (iv (crc l)) ∧ h' = h) := by
  refine ACalls.of_aw Try.func46 K.msg_Sum (by simp [Try.f46]) ?_
  generalize hQ : retQ R.msg_Sum _ = Q
  simp (disch := first | assumption | omega) only [C.msg_Sum, go_sem, ↓reduceIte, Nat.reduceEqDiff, reduceCtorEq, Nat.reduceAdd, Nat.reduceLeDiff, Nat.reduceLT, wrapU32, reduceIte, Int.natCast_nonneg, Int.ofNat_lt, Int.ofNat_le, cond_true, cond_false, Int.reduceBEq, Int.reduceBNe, Int.reduceLT, Int.reduceLE, Int.reduceAdd, Int.reduceSub, Int.reduceMul, Int.reduceNeg, Int.reduceEq, Int.reduceNe, Nat.reduceMul, Nat.reduceSub, decide_true, decide_false, not_true_eq_false, not_false_eq_true, Bool.true_and, Bool.false_and, Bool.and_false]
  refine aw_count (fun d S => ∃ (i : Nat), i + d = l.length ∧ S.env 8 = .int .i64 i ∧ S.env 7 = .int .i64 l.length ∧ S.env 6 = .lst o (ints .u8 l) ∧
    S.env 3 = .int .u32 (iv (sumFrom (bv 4294967295) (l.take i))) ∧ S.heap = h) (n := l.length) ⟨0, by simp [go_sem, sumFrom]; rfl⟩ ?_
  rintro d S ⟨i, hi, e8, e7, e6, e3, eh⟩
  simp (disch := first | assumption | omega) only [e8, e7, e6, e3, eh, go_sem, ↓reduceIte, Nat.reduceEqDiff, reduceCtorEq, Nat.reduceAdd, Nat.reduceLeDiff, Nat.reduceLT, wrapU32, reduceIte, Int.natCast_nonneg, Int.ofNat_lt, Int.ofNat_le, cond_true, cond_false, Int.reduceBEq, Int.reduceBNe, Int.reduceLT, Int.reduceLE, Int.reduceAdd, Int.reduceSub, Int.reduceMul, Int.reduceNeg, Int.reduceEq, Int.reduceNe, Nat.reduceMul, Nat.reduceSub, decide_true, decide_false, not_true_eq_false, not_false_eq_true, Bool.true_and, Bool.false_and, Bool.and_false]
  refine condG_if (fun hlt => ?_) fun hge => ?_
  · have hlt : i < l.length := by omega
    have hx := hb _ (List.getElem_mem hlt)
    unfold inU8 at hx
    have hstep : sumFrom (bv 4294967295) (l.take (i + 1)) = sumStep (sumFrom (bv 4294967295) (l.take i)) l[i] := sumFrom_take _ l i hlt
    have hat := at_ints' (k := .u8) l i hlt
    rw [show l.getD i 0 = l[i] from by simp [List.getD_eq_getElem?_getD, hlt]] at hat
    generalize sumFrom (bv 4294967295) (l.take i) = s at *
    generalize l[i] = x at *
    simp (disch := first | assumption | omega) only [e8, e7, e6, e3, eh, hat, hlt, xor32, bv_iv, go_sem, ↓reduceIte, Nat.reduceEqDiff, reduceCtorEq, Nat.reduceAdd, Nat.reduceLeDiff, Nat.reduceLT, wrapU32, reduceIte, Int.natCast_nonneg, Int.ofNat_lt, Int.ofNat_le, cond_true, cond_false, Int.reduceBEq, Int.reduceBNe, Int.reduceLT, Int.reduceLE, Int.reduceAdd, Int.reduceSub, Int.reduceMul, Int.reduceNeg, Int.reduceEq, Int.reduceNe, Nat.reduceMul, Nat.reduceSub, decide_true, decide_false, not_true_eq_false, not_false_eq_true, Bool.true_and, Bool.false_and, Bool.and_false]
    refine aw_count (fun d' S' => ∃ (j : Nat), j + d' = 8 ∧ S'.env 16 = .int .i64 j ∧ S'.env 8 = .int .i64 i ∧ S'.env 7 = .int .i64 l.length ∧ S'.env 6 = .lst o (ints .u8 l) ∧
      S'.env 3 = .int .u32 (iv (rnds j (s ^^^ bv x))) ∧ S'.heap = h) (n := 8) ⟨0, by simp [go_sem, rnds, *]⟩ ?_
    clear e8 e7 e6 e3 eh
    rintro d' S' ⟨j, hj, e16, e8, e7, e6, e3, eh⟩
    simp (disch := first | assumption | omega) only [e8, e7, e6, e3, eh, e16, go_sem, ↓reduceIte, Nat.reduceEqDiff, reduceCtorEq, Nat.reduceAdd, Nat.reduceLeDiff, Nat.reduceLT, wrapU32, reduceIte, Int.natCast_nonneg, Int.ofNat_lt, Int.ofNat_le, cond_true, cond_false, Int.reduceBEq, Int.reduceBNe, Int.reduceLT, Int.reduceLE, Int.reduceAdd, Int.reduceSub, Int.reduceMul, Int.reduceNeg, Int.reduceEq, Int.reduceNe, Nat.reduceMul, Nat.reduceSub, decide_true, decide_false, not_true_eq_false, not_false_eq_true, Bool.true_and, Bool.false_and, Bool.and_false]
    refine condG_if (fun hlt2 => ?_) fun hge2 => ?_
    · simp (disch := first | assumption | omega) only [e8, e7, e6, e3, eh, e16, go_sem, ↓reduceIte, Nat.reduceEqDiff, reduceCtorEq, Nat.reduceAdd, Nat.reduceLeDiff, Nat.reduceLT, wrapU32, reduceIte, Int.natCast_nonneg, Int.ofNat_lt, Int.ofNat_le, cond_true, cond_false, Int.reduceBEq, Int.reduceBNe, Int.reduceLT, Int.reduceLE, Int.reduceAdd, Int.reduceSub, Int.reduceMul, Int.reduceNeg, Int.reduceEq, Int.reduceNe, Nat.reduceMul, Nat.reduceSub, decide_true, decide_false, not_true_eq_false, not_false_eq_true, Bool.true_and, Bool.false_and, Bool.and_false]
      have e1 := shr32 (rnds j (s ^^^ bv x)) 1
      simp (disch := first | assumption | omega) only [e8, e7, e6, e3, eh, e16, and32, bv_iv, mul32, xor32, go_sem, ↓reduceIte, Nat.reduceEqDiff, reduceCtorEq, Nat.reduceAdd, Nat.reduceLeDiff, Nat.reduceLT, wrapU32, reduceIte, Int.natCast_nonneg, Int.ofNat_lt, Int.ofNat_le, cond_true, cond_false, Int.reduceBEq, Int.reduceBNe, Int.reduceLT, Int.reduceLE, Int.reduceAdd, Int.reduceSub, Int.reduceMul, Int.reduceNeg, Int.reduceEq, Int.reduceNe, Nat.reduceMul, Nat.reduceSub, decide_true, decide_false, not_true_eq_false, not_false_eq_true, Bool.true_and, Bool.false_and, Bool.and_false]
      refine ⟨d' - 1, by omega, j + 1, by omega, by simp, ?_⟩
      rw [show min (Int.toNat 1) 32 = 1 from rfl, shr32, bv_iv, poly_and]
      rfl
    · obtain rfl : j = 8 := by omega
      simp (disch := first | assumption | omega) only [e8, e7, e6, e3, eh, e16, go_sem, ↓reduceIte, Nat.reduceEqDiff, reduceCtorEq, Nat.reduceAdd, Nat.reduceLeDiff, Nat.reduceLT, wrapU32, reduceIte, Int.natCast_nonneg, Int.ofNat_lt, Int.ofNat_le, cond_true, cond_false, Int.reduceBEq, Int.reduceBNe, Int.reduceLT, Int.reduceLE, Int.reduceAdd, Int.reduceSub, Int.reduceMul, Int.reduceNeg, Int.reduceEq, Int.reduceNe, Nat.reduceMul, Nat.reduceSub, decide_true, decide_false, not_true_eq_false, not_false_eq_true, Bool.true_and, Bool.false_and, Bool.and_false]
      refine ⟨d - 1, by omega, i + 1, by omega, by simp, ?_⟩
      rw [hstep]; rfl
  · obtain rfl : i = l.length := by omega
    simp (disch := first | assumption | omega) only [e8, e7, e6, e3, eh, go_sem, ↓reduceIte, Nat.reduceEqDiff, reduceCtorEq, Nat.reduceAdd, Nat.reduceLeDiff, Nat.reduceLT, wrapU32, reduceIte, Int.natCast_nonneg, Int.ofNat_lt, Int.ofNat_le, cond_true, cond_false, Int.reduceBEq, Int.reduceBNe, Int.reduceLT, Int.reduceLE, Int.reduceAdd, Int.reduceSub, Int.reduceMul, Int.reduceNeg, Int.reduceEq, Int.reduceNe, Nat.reduceMul, Nat.reduceSub, decide_true, decide_false, not_true_eq_false, not_false_eq_true, Bool.true_and, Bool.false_and, Bool.and_false]
    subst hQ
    simp (disch := first | assumption | omega) only [R.msg_Sum, go_sem, ↓reduceIte, Nat.reduceEqDiff, reduceCtorEq, Nat.reduceAdd, Nat.reduceLeDiff, Nat.reduceLT, wrapU32, reduceIte, Int.natCast_nonneg, Int.ofNat_lt, Int.ofNat_le, cond_true, cond_false, Int.reduceBEq, Int.reduceBNe, Int.reduceLT, Int.reduceLE, Int.reduceAdd, Int.reduceSub, Int.reduceMul, Int.reduceNeg, Int.reduceEq, Int.reduceNe, Nat.reduceMul, Nat.reduceSub, decide_true, decide_false, not_true_eq_false, not_false_eq_true, Bool.true_and, Bool.false_and, Bool.and_false]
    rw [List.take_length]
    simp only [xor32, bv_iv, IntKind.signed, Bool.false_eq_true, if_false]
    refine ⟨?_, eh⟩
    unfold crc
    rw [BitVec.xor_comm]; rfl
end Go.Proofs.Ytpdajkbfemcdlaa
