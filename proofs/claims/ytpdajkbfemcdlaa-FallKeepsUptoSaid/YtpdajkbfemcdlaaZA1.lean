import Derived.Test.YtpdajkbfemcdlaaGeD
import Derived.Test.YtpdajkbfemcdlaaChecked
import Derived.Test.YtpdajkbfemcdlaaFn
import Derived.KernelRfl
namespace Go.Ge
@[go_sem] def AO.m (d t : Nat) : AO := ⟨some d, .move false (.t t), none⟩
end Go.Ge
namespace Go.Proofs.Ytpdajkbfemcdlaa
open Go.Ge
def C.msg_Sum : ACode :=
  .seq (.region [⟨some 2, .move false (.c (.int .u32 0)), none⟩]) (
  .seq (.region [⟨some 3, .move false (.c (.int .u32 4294967295)), none⟩]) (
  .seq (.seq (.region [.m 6 0,⟨some 7, .len (.t 6), none⟩,⟨some 8, .move false (.c (.int .i64 0)), none⟩]) (
  .block 0 (.loop (.seq (.region [⟨some 9, .bin .lss (.t 8) (.t 7), none⟩]) (
  .seq (.cond (.t 9) (.skip) (.exit 0)) (
  .seq (.block 1 (.seq (.region [⟨some 10, .iaddr 1 (.t 6) (.t 8), none⟩,⟨some 11, .load 2 false 1 (.t 10), none⟩,.m 5 11]) (
  .seq (.region [.m 12 3,.m 13 5,⟨some 14, .conv .u32 (.t 13), none⟩,⟨some 15, .bin .xor (.t 12) (.t 14), none⟩,.m 3 15]) (
  .seq (.region [⟨some 16, .move false (.c (.int .i64 0)), none⟩]) (
  .block 2 (.loop (.seq (.region [⟨some 17, .bin .lss (.t 16) (.c (.int .i64 8)), none⟩]) (
  .seq (.cond (.t 17) (.skip) (.exit 2)) (
  .seq (.block 3 (.region [.m 18 3,⟨some 19, .bin .shr (.t 18) (.c (.int .u64 1)), none⟩,.m 20 3,⟨some 21, .bin .and (.t 20) (.c (.int .u32 1)), none⟩,⟨some 22, .bin .mul (.c (.int .u32 3988292384)) (.t 21), none⟩,⟨some 23, .bin .xor (.t 19) (.t 22), none⟩,.m 3 23])) (
  .region [⟨some 24, .bin .add (.t 16) (.c (.int .i64 1)), none⟩,.m 16 24])))))))))) (
  .region [⟨some 25, .bin .add (.t 8) (.c (.int .i64 1)), none⟩,.m 8 25]))))))) (
  .seq (.region [.m 26 3,⟨some 27, .un .xor (.t 26), none⟩,.m 2 27]) (
  .ret))))
def R.msg_Sum : List ARes := [.t 2]
set_option maxRecDepth 100000 in
theorem K.msg_Sum : ckFun Try.prog Try.f46 C.msg_Sum R.msg_Sum = true := by kernel_rfl
def C.gantref5_Bytes : ACode :=
  .seq (.region [⟨some 4, .move false (.c (.lst .nil [])), none⟩]) (
  .seq (.region [.m 7 1,⟨some 8, .mkslice 1 1 true (.int .u8 0) (.t 7), none⟩,⟨some 5, .move true (.t 8), none⟩]) (
  .seq (.seq (.region [.m 9 1,⟨some 10, .bin .sub (.t 9) (.c (.int .i64 1)), none⟩,.m 6 10]) (
  .block 0 (.thaw 5 (.loop (.seq (.seq (.region [.m 11 6,⟨some 12, .bin .geq (.t 11) (.c (.int .i64 0)), none⟩]) (
  .cond (.t 12) (.skip) (.exit 0))) (
  .seq (.block 1 (.seq (.region [.m 15 5,.m 16 6,.m 17 0,⟨some 18, .conv .u8 (.t 17), none⟩,⟨some 19, .iaddr 1 (.t 15) (.t 16), none⟩,⟨none, .store 1 (.t 19) (.t 18), none⟩]) (
  .region [.m 20 0,⟨some 21, .bin .quo (.t 20) (.c (.int .u64 256)), none⟩,.m 0 21]))) (
  .region [.m 13 6,⟨some 14, .bin .sub (.t 13) (.c (.int .i64 1)), none⟩,.m 6 14]))))))) (
  .seq (.region [.m 22 5,.m 4 22]) (
  .own 4 false 1 (.ret)))))
def R.gantref5_Bytes : List ARes := [.t 4]
set_option maxRecDepth 100000 in
theorem K.gantref5_Bytes : ckFun Try.prog Try.f155 C.gantref5_Bytes R.gantref5_Bytes = true := by kernel_rfl
end Go.Proofs.Ytpdajkbfemcdlaa
set_option linter.unusedSimpArgs false
namespace Go.Proofs.Ytpdajkbfemcdlaa
open Go.Ge
def beBytes (n : Int) : Nat → List Int
  | 0 => []
  | m + 1 => beBytes (n / 256) m ++ [n % 256]
theorem beBytes_length (n : Int) (m : Nat) : (beBytes n m).length = m := by
  induction m generalizing n with
  | zero => rfl
  | succ m ih => simp [beBytes, ih]
def beStep (n : Int) : Nat → Int
  | 0 => n
  | m + 1 => beStep n m / 256
theorem beBytes_split (n : Int) (m k : Nat) : beBytes n (m + k) = beBytes (beStep n k) m ++ beBytes n k := by
  induction k generalizing n with
  | zero => simp [beBytes, beStep]
  | succ k ih =>
    have e : ∀ k n, beStep n (k + 1) = beStep (n / 256) k := by
      intro k
      induction k with
      | zero => intro n; rfl
      | succ k ih => intro n; rw [beStep, ih]; rfl
    rw [← Nat.add_assoc, beBytes, ih, e, beBytes, List.append_assoc]
theorem beStep_bd (n : Int) (k : Nat) (h0 : 0 ≤ n) (h : n < 18446744073709551616) : 0 ≤ beStep n k ∧ beStep n k < 18446744073709551616 := by
  induction k with
  | zero => exact ⟨h0, h⟩
  | succ k ih => rw [beStep]; omega
theorem Bytes_ok (n : Int) (m : Nat) (hn0 : 0 ≤ n) (hn : n < 18446744073709551616) (hm : m ≤ 1000) (h : List HObj) :
    ACalls Try.prog F.gantref5_Bytes [.int .u64 n, .int .i64 m] h (fun r h' => r = .lst (.uniq 1 m) (ints .u8 (beBytes n m)) ∧ h' = h) := by
  refine ACalls.gcn (ACalls.of_aw Try.func155 K.gantref5_Bytes (by simp [Try.f155]) ?_)
  generalize hQ : retQ R.gantref5_Bytes _ = Q
  simp (disch := first | assumption | omega) only [C.gantref5_Bytes, go_sem, ↓reduceIte, Nat.reduceEqDiff, reduceCtorEq, Nat.reduceAdd, Nat.reduceLeDiff, Nat.reduceLT, wrapU32, reduceIte]
  refine ⟨⟨by omega, by omega, by omega⟩, ?_⟩
  refine thaw_ints (n := m) (k := .u8) (ns := List.replicate m 0) (by simp (disch := first | assumption | omega) only [ints_rep, go_sem, ↓reduceIte, Nat.reduceEqDiff, reduceCtorEq, Nat.reduceAdd, Nat.reduceLeDiff, Nat.reduceLT, wrapU32, reduceIte]) (by simp) ?_
  simp (disch := first | assumption | omega) only [go_sem, ↓reduceIte, Nat.reduceEqDiff, reduceCtorEq, Nat.reduceAdd, Nat.reduceLeDiff, Nat.reduceLT, wrapU32, reduceIte]
  refine aw_count (fun d S => ∃ (k : Nat), k + d = m ∧ S.env 6 = .int .i64 ((d : Int) - 1) ∧ S.env 0 = .int .u64 (beStep n k) ∧ S.env 5 = .ref h.length 0 m m ∧
    S.heap = h ++ [.cells (ints .u8 (List.replicate d 0 ++ beBytes n k))]) (n := m) ?_ ?_
  · refine ⟨0, by omega, ?_⟩
    simp [go_sem, beStep, beBytes]
  · rintro d S ⟨k, hk, e6, e0, e5, eh⟩
    simp (disch := first | assumption | omega) only [e6, e0, e5, eh, go_sem, ↓reduceIte, Nat.reduceEqDiff, reduceCtorEq, Nat.reduceAdd, Nat.reduceLeDiff, Nat.reduceLT, wrapU32, reduceIte]
    refine condG_if ?_ ?_
    · intro hlt
      obtain ⟨d, rfl⟩ : ∃ d', d = d' + 1 := ⟨d - 1, by omega⟩
      have hb := beStep_bd n k hn0 hn
      simp (disch := first | assumption | omega) only [e6, e0, e5, eh, go_sem, ↓reduceIte, Nat.reduceEqDiff, reduceCtorEq, Nat.reduceAdd, Nat.reduceLeDiff, Nat.reduceLT, wrapU32, reduceIte]
      have e1 : (((d + 1 : Nat) : Int) - 1).toNat = d := by omega
      simp only [e1, Nat.mul_one, ints_length, List.length_append, List.length_replicate]
      refine ⟨⟨by omega, by omega⟩, by omega, by omega, d, by omega, k + 1, by omega, by rw [show (((d + 1 : Nat) : Int) - 1 - 1) = (d : Int) - 1 by omega], ?_, ?_⟩
      · rfl
      · rw [ints_set _ _ _ (by simp; omega), wrapU8_mod]
        congr 4
        rw [List.set_append_left _ _ (by simp), List.replicate_succ', List.set_append_right _ _ (by simp)]
        have e2 : beBytes n (k + 1) = [beStep n k % 256] ++ beBytes n k := by
          have := beBytes_split n 1 k
          rw [Nat.add_comm] at this
          simpa [beBytes] using this
        simp [e2]
    · intro hge
      obtain rfl : d = 0 := by omega
      obtain rfl : k = m := by omega
      simp (disch := first | assumption | omega) only [e6, e0, e5, eh, List.replicate_zero, go_sem, ↓reduceIte, Nat.reduceEqDiff, reduceCtorEq, Nat.reduceAdd, Nat.reduceLeDiff, Nat.reduceLT, wrapU32, reduceIte]
      refine own_ints (id := h.length) (n := k) (k := .u8) (ns := beBytes n k) (by simp (disch := first | assumption | omega) only [go_sem, ↓reduceIte, Nat.reduceEqDiff, reduceCtorEq, Nat.reduceAdd, Nat.reduceLeDiff, Nat.reduceLT, wrapU32, reduceIte]) (by simp (disch := first | assumption | omega) only [eh, List.replicate_zero, go_sem, ↓reduceIte, Nat.reduceEqDiff, reduceCtorEq, Nat.reduceAdd, Nat.reduceLeDiff, Nat.reduceLT, wrapU32, reduceIte]) (beBytes_length n k) ?_
      rintro hp hhp
      subst hQ
      simp (disch := first | assumption | omega) only [R.gantref5_Bytes, go_sem, ↓reduceIte, Nat.reduceEqDiff, reduceCtorEq, Nat.reduceAdd, Nat.reduceLeDiff, Nat.reduceLT, wrapU32, reduceIte]
      rcases hhp with rfl | rfl
      · simp (disch := first | assumption | omega) only [eh, go_sem, ↓reduceIte, Nat.reduceEqDiff, reduceCtorEq, Nat.reduceAdd, Nat.reduceLeDiff, Nat.reduceLT, wrapU32, reduceIte]
        exact ⟨_, rfl, by simp [AVal.ids, ints_ids]⟩
      · simp (disch := first | assumption | omega) only [eh, go_sem, ↓reduceIte, Nat.reduceEqDiff, reduceCtorEq, Nat.reduceAdd, Nat.reduceLeDiff, Nat.reduceLT, wrapU32, reduceIte]
        exact ⟨_, rfl, by simp [AVal.ids, ints_ids]⟩
end Go.Proofs.Ytpdajkbfemcdlaa
namespace Go.Proofs.Ytpdajkbfemcdlaa
open Go.Ge
def C.gantref5_Crc : ACode :=
  .seq (.region [⟨some 2, .move false (.c (.int .u32 0)), none⟩]) (
  .seq (.region [⟨some 7, .call true F.gantref5_table [], none⟩,⟨some 3, .alloc false (List.replicate 256 (.int .u32 0)), none⟩,⟨none, .store 256 (.t 3) (.t 7), none⟩]) (
  .seq (.region [⟨some 4, .move false (.c (.int .u32 4294967295)), none⟩]) (
  .seq (.seq (.region [.m 8 0,⟨some 9, .len (.t 8), none⟩,⟨some 10, .move false (.c (.int .i64 0)), none⟩]) (
  .block 0 (.loop (.seq (.region [⟨some 11, .bin .lss (.t 10) (.t 9), none⟩]) (
  .seq (.cond (.t 11) (.skip) (.exit 0)) (
  .seq (.block 1 (.seq (.region [⟨some 12, .iaddr 1 (.t 8) (.t 10), none⟩,⟨some 13, .load 2 false 1 (.t 12), none⟩,.m 6 13]) (
  .region [.m 14 4,⟨some 15, .conv .u8 (.t 14), none⟩,.m 16 6,⟨some 17, .bin .xor (.t 15) (.t 16), none⟩,⟨some 18, .aaddr 256 1 (.t 3) (.t 17), none⟩,⟨some 19, .load 2 false 1 (.t 18), none⟩,.m 20 4,⟨some 21, .bin .quo (.t 20) (.c (.int .u32 256)), none⟩,⟨some 22, .bin .xor (.t 19) (.t 21), none⟩,.m 4 22]))) (
  .region [⟨some 23, .bin .add (.t 10) (.c (.int .i64 1)), none⟩,.m 10 23]))))))) (
  .seq (.region [.m 24 4,⟨some 25, .bin .xor (.t 24) (.c (.int .u32 4294967295)), none⟩,.m 2 25]) (
  .ret)))))
def R.gantref5_Crc : List ARes := [.t 2]
set_option maxRecDepth 100000 in
theorem K.gantref5_Crc : ckFun Try.prog Try.f50 C.gantref5_Crc R.gantref5_Crc = true := by kernel_rfl
def C.gantref5_table : ACode :=
  .seq (.region [⟨some 0, .alloc false (List.replicate 256 (.int .u32 0)), none⟩]) (
  .seq (.region [⟨some 1, .alloc false (List.replicate 256 (.int .u32 0)), none⟩]) (
  .seq (.seq (.region [⟨some 4, .move false (.c (.int .i64 0)), none⟩]) (
  .block 0 (.loop (.seq (.region [⟨some 5, .bin .lss (.t 4) (.c (.int .i64 256)), none⟩]) (
  .seq (.cond (.t 5) (.skip) (.exit 0)) (
  .seq (.block 1 (.seq (.region [.m 6 4,.m 2 6]) (
  .seq (.region [.m 7 2,⟨some 8, .conv .u32 (.t 7), none⟩,.m 3 8]) (
  .seq (.seq (.region [⟨some 9, .move false (.c (.int .i64 0)), none⟩]) (
  .block 2 (.loop (.seq (.region [⟨some 10, .bin .lss (.t 9) (.c (.int .i64 8)), none⟩]) (
  .seq (.cond (.t 10) (.skip) (.exit 2)) (
  .seq (.block 3 (.seq (.region [.m 11 3,⟨some 12, .bin .rem (.t 11) (.c (.int .u32 2)), none⟩,⟨some 13, .bin .eql (.t 12) (.c (.int .u32 1)), none⟩]) (
  .cond (.t 13) (.region [.m 14 3,⟨some 15, .bin .quo (.t 14) (.c (.int .u32 2)), none⟩,⟨some 16, .bin .xor (.t 15) (.c (.int .u32 3988292384)), none⟩,.m 3 16]) (.region [.m 17 3,⟨some 18, .bin .quo (.t 17) (.c (.int .u32 2)), none⟩,.m 3 18])))) (
  .region [⟨some 19, .bin .add (.t 9) (.c (.int .i64 1)), none⟩,.m 9 19]))))))) (
  .region [.m 20 2,.m 21 3,⟨some 22, .aaddr 256 1 (.t 1) (.t 20), none⟩,⟨none, .store 1 (.t 22) (.t 21), none⟩]))))) (
  .region [⟨some 23, .bin .add (.t 4) (.c (.int .i64 1)), none⟩,.m 4 23]))))))) (
  .seq (.region [⟨some 24, .load 2 true 256 (.t 1), none⟩,⟨none, .store 256 (.t 0) (.t 24), none⟩]) (
  .ret))))
def R.gantref5_table : List ARes := [.c 0 true 256]
set_option maxRecDepth 100000 in
theorem K.gantref5_table : ckFun Try.prog Try.f149 C.gantref5_table R.gantref5_table = true := by kernel_rfl
def C.gantlaw5_same : ACode :=
  .seq (.region [⟨some 2, .bx true (.t 0), none⟩,⟨some 3, .bx true (.t 1), none⟩,⟨some 4, .move false (.c (.bool false)), none⟩]) (
  .seq (.region [⟨some 5, .faddr 0 (.t 2), none⟩,⟨some 6, .load 2 false 1 (.t 5), none⟩,⟨some 7, .faddr 0 (.t 3), none⟩,⟨some 8, .load 2 false 1 (.t 7), none⟩,⟨some 9, .bin .eql (.t 6) (.t 8), none⟩,.m 10 9,⟨some 11, .faddr 1 (.t 2), (some (10, true))⟩,⟨some 12, .load 2 false 1 (.t 11), (some (10, true))⟩,⟨some 13, .faddr 1 (.t 3), (some (10, true))⟩,⟨some 14, .load 2 false 1 (.t 13), (some (10, true))⟩,⟨some 15, .bin .eql (.t 12) (.t 14), (some (10, true))⟩,⟨some 16, .pick (.t 10) (.t 15) (.c (.bool false)), none⟩,.m 17 16,⟨some 18, .faddr 2 (.t 2), (some (17, true))⟩,⟨some 19, .load 2 false 1 (.t 18), (some (17, true))⟩,⟨some 20, .faddr 2 (.t 3), (some (17, true))⟩,⟨some 21, .load 2 false 1 (.t 20), (some (17, true))⟩,⟨some 22, .bin .eql (.t 19) (.t 21), (some (17, true))⟩,⟨some 23, .pick (.t 17) (.t 22) (.c (.bool false)), none⟩,.m 24 23,⟨some 25, .faddr 3 (.t 2), (some (24, true))⟩,⟨some 26, .load 2 false 1 (.t 25), (some (24, true))⟩,⟨some 27, .faddr 3 (.t 3), (some (24, true))⟩,⟨some 28, .load 2 false 1 (.t 27), (some (24, true))⟩,⟨some 29, .bin .eql (.t 26) (.t 28), (some (24, true))⟩,⟨some 30, .pick (.t 24) (.t 29) (.c (.bool false)), none⟩,.m 31 30,⟨some 32, .faddr 4 (.t 2), (some (31, true))⟩,⟨some 33, .load 2 false 1 (.t 32), (some (31, true))⟩,⟨some 34, .faddr 4 (.t 3), (some (31, true))⟩,⟨some 35, .load 2 false 1 (.t 34), (some (31, true))⟩,⟨some 36, .bin .eql (.t 33) (.t 35), (some (31, true))⟩,⟨some 37, .pick (.t 31) (.t 36) (.c (.bool false)), none⟩,.m 38 37,⟨some 39, .faddr 5 (.t 2), (some (38, true))⟩,⟨some 40, .load 2 false 1 (.t 39), (some (38, true))⟩,⟨some 41, .faddr 5 (.t 3), (some (38, true))⟩,⟨some 42, .load 2 false 1 (.t 41), (some (38, true))⟩,⟨some 43, .call true F.slices_Equal_Cell [(.t 40), (.t 42)], (some (38, true))⟩,⟨some 44, .pick (.t 38) (.t 43) (.c (.bool false)), none⟩,.m 4 44]) (
  .ret))
def R.gantlaw5_same : List ARes := [.t 4]
set_option maxRecDepth 100000 in
theorem K.gantlaw5_same : ckFun Try.prog Try.f48 C.gantlaw5_same R.gantlaw5_same = true := by kernel_rfl
def C.slices_Equal_Cell : ACode :=
  .seq (.region [⟨some 4, .move false (.c (.bool false)), none⟩]) (
  .seq (.seq (.region [.m 6 0,⟨some 7, .len (.t 6), none⟩,.m 8 1,⟨some 9, .len (.t 8), none⟩,⟨some 10, .bin .neq (.t 7) (.t 9), none⟩]) (
  .cond (.t 10) (.seq (.region [⟨some 4, .move false (.c (.bool false)), none⟩]) (
  .ret)) (.skip))) (
  .seq (.seq (.region [.m 11 0,⟨some 12, .len (.t 11), none⟩,⟨some 13, .move false (.c (.int .i64 0)), none⟩]) (
  .block 0 (.loop (.seq (.region [⟨some 14, .bin .lss (.t 13) (.t 12), none⟩]) (
  .seq (.cond (.t 14) (.skip) (.exit 0)) (
  .seq (.block 1 (.seq (.region [.m 15 13,.m 5 15]) (
  .seq (.drawn [0, 1, 2, 3, 4, 5, 6, 7, 8] [0, 0, 3, 7, 0, 0, 48, 112, 255] [.m 16 0,.m 17 5,⟨some 18, .iaddr 2 (.t 16) (.t 17), none⟩,⟨some 19, .load 0 true 2 (.t 18), none⟩,.m 20 1,.m 21 5,⟨some 22, .iaddr 2 (.t 20) (.t 21), none⟩,⟨some 23, .load 0 true 2 (.t 22), none⟩,⟨some 24, .eqs true [.i .i64, .i .i64] (.t 19) (.t 23), none⟩]) (
  .cond (.t 24) (.seq (.region [⟨some 4, .move false (.c (.bool false)), none⟩]) (
  .ret)) (.skip))))) (
  .region [⟨some 25, .bin .add (.t 13) (.c (.int .i64 1)), none⟩,.m 13 25]))))))) (
  .seq (.region [⟨some 4, .move false (.c (.bool true)), none⟩]) (
  .ret))))
def R.slices_Equal_Cell : List ARes := [.t 4]
set_option maxRecDepth 100000 in
theorem K.slices_Equal_Cell : ckFun Try.prog Try.f123 C.slices_Equal_Cell R.slices_Equal_Cell = true := by kernel_rfl
def C.slices_Clone_Cell : ACode :=
  .seq (.region [⟨some 2, .move false (.c (.lst .nil [])), none⟩]) (
  .seq (.seq (.region [.m 3 0,⟨some 4, .isnil false false (.t 3), none⟩]) (
  .cond (.t 4) (.seq (.region [⟨some 2, .move false (.c (.lst .nil [])), none⟩]) (
  .ret)) (.skip))) (
  .seq (.region [⟨some 5, .buildS false 2 [], none⟩,.m 6 0,⟨some 7, .append 2 16 (.t 5) (.t 6), none⟩,⟨some 2, .move true (.t 7), none⟩]) (
  .ret)))
def R.slices_Clone_Cell : List ARes := [.t 2]
set_option maxRecDepth 100000 in
theorem K.slices_Clone_Cell : ckFun Try.prog Try.f148 C.slices_Clone_Cell R.slices_Clone_Cell = true := by kernel_rfl
end Go.Proofs.Ytpdajkbfemcdlaa
set_option linter.unusedSimpArgs false
set_option linter.unusedVariables false
set_option maxRecDepth 10000
namespace Go.Proofs.Ytpdajkbfemcdlaa
open Go.Ge
theorem poly_and (b : BitVec 32) : b >>> 1 ^^^ bv 3988292384 * (b &&& bv 1) = rnd b := rfl
theorem sumFrom_take (b : BitVec 32) (l : List Int) (i : Nat) (h : i < l.length) : sumFrom b (l.take (i + 1)) = sumStep (sumFrom b (l.take i)) l[i] := by
  unfold sumFrom
  rw [List.take_add_one, List.getElem?_eq_getElem h]
  simp only [Option.toList, List.foldl_append, List.foldl_cons, List.foldl_nil]
theorem Sum_ok (o : Own) (l : List Int) (ho : Rdo o) (hb : ∀ x ∈ l, inU8 x) (hl : l.length < 4611686018427387904) (h : List HObj) :
    ACalls Try.prog F.msg_Sum [.lst o (ints .u8 l)] h (fun r h' => r = .int .u32 (iv (crc l)) ∧ h' = h) := by
  refine ACalls.of_aw Try.func46 K.msg_Sum (by simp [Try.f46]) ?_
  generalize hQ : retQ R.msg_Sum _ = Q
  simp (disch := first | assumption | omega) only [C.msg_Sum, go_sem, ↓reduceIte, reduceCtorEq, reduceIte, Bool.true_and]
  refine aw_count (fun d S => ∃ (i : Nat), i + d = l.length ∧ S.env 8 = .int .i64 i ∧ S.env 7 = .int .i64 l.length ∧ S.env 6 = .lst o (ints .u8 l) ∧
    S.env 3 = .int .u32 (iv (sumFrom (bv 4294967295) (l.take i))) ∧ S.heap = h) (n := l.length) ⟨0, by simp [go_sem, sumFrom]; rfl⟩ ?_
  rintro d S ⟨i, hi, e8, e7, e6, e3, eh⟩
  simp (disch := first | assumption | omega) only [e8, e7, go_sem, ↓reduceIte, reduceIte, Int.ofNat_lt, Bool.true_and]
  refine condG_if (fun hlt => ?_) fun hge => ?_
  · have hlt : i < l.length := by omega
    have hx := hb _ (List.getElem_mem hlt)
    unfold inU8 at hx
    have hstep : sumFrom (bv 4294967295) (l.take (i + 1)) = sumStep (sumFrom (bv 4294967295) (l.take i)) l[i] := sumFrom_take _ l i hlt
    have hat := at_ints' (k := .u8) l i hlt
    rw [show l.getD i 0 = l[i] from by simp [List.getD_eq_getElem?_getD, hlt]] at hat
    generalize sumFrom (bv 4294967295) (l.take i) = s at *
    generalize l[i] = x at *
    simp (disch := first | assumption | omega) only [e8, e6, e3, hat, hlt, xor32, bv_iv, go_sem, ↓reduceIte, Nat.reduceEqDiff, Nat.reduceLeDiff, Nat.reduceLT, wrapU32, reduceIte, Int.natCast_nonneg, Int.ofNat_lt, Int.reduceLT, decide_true, Bool.true_and]
    refine aw_count (fun d' S' => ∃ (j : Nat), j + d' = 8 ∧ S'.env 16 = .int .i64 j ∧ S'.env 8 = .int .i64 i ∧ S'.env 7 = .int .i64 l.length ∧ S'.env 6 = .lst o (ints .u8 l) ∧
      S'.env 3 = .int .u32 (iv (rnds j (s ^^^ bv x))) ∧ S'.heap = h) (n := 8) ⟨0, by simp [go_sem, rnds, *]⟩ ?_
    clear e8 e7 e6 e3 eh
    rintro d' S' ⟨j, hj, e16, e8, e7, e6, e3, eh⟩
    simp (disch := first | assumption | omega) only [e16, go_sem, ↓reduceIte, reduceIte, Bool.true_and]
    refine condG_if (fun hlt2 => ?_) fun hge2 => ?_
    · simp (disch := first | assumption | omega) only [e8, e7, e6, e3, eh, e16, go_sem, ↓reduceIte, Nat.reduceEqDiff, reduceIte, Int.reduceLE, Bool.true_and]
      have e1 := shr32 (rnds j (s ^^^ bv x)) 1
      simp (disch := first | assumption | omega) only [and32, bv_iv, mul32, xor32, go_sem]
      refine ⟨d' - 1, by omega, j + 1, by omega, by simp, ?_⟩
      rw [show min (Int.toNat 1) 32 = 1 from rfl, shr32, bv_iv, poly_and]
      rfl
    · obtain rfl : j = 8 := by omega
      simp (disch := first | assumption | omega) only [e8, e7, e6, e3, eh, go_sem, ↓reduceIte, Nat.reduceEqDiff, reduceIte, Bool.true_and]
      refine ⟨d - 1, by omega, i + 1, by omega, by simp, ?_⟩
      rw [hstep]; rfl
  · obtain rfl : i = l.length := by omega
    simp (disch := first | assumption | omega) only [e3, go_sem, ↓reduceIte, Nat.reduceEqDiff, reduceIte, Int.reduceNeg, Bool.true_and]
    subst hQ
    simp (disch := first | assumption | omega) only [R.msg_Sum, go_sem, ↓reduceIte, reduceIte, Int.reduceNeg, Bool.true_and]
    rw [List.take_length]
    simp only [xor32, bv_iv, IntKind.signed, Bool.false_eq_true, if_false]
    refine ⟨?_, eh⟩
    unfold crc
    rw [BitVec.xor_comm]; rfl
end Go.Proofs.Ytpdajkbfemcdlaa
set_option linter.unusedSimpArgs false
set_option linter.unusedVariables false
set_option maxRecDepth 10000
namespace Go.Proofs.Ytpdajkbfemcdlaa
open Go.Ge
def tab (i : Nat) : List Int := (List.range i).map (fun k => iv (entry k)) ++ List.replicate (256 - i) 0
theorem tab_length (i : Nat) (h : i ≤ 256) : (tab i).length = 256 := by simp [tab]; omega
theorem tab_set (i : Nat) (h : i < 256) : (tab i).set i (iv (entry i)) = tab (i + 1) := by
  unfold tab
  rw [List.set_append_right _ _ (by simp)]
  simp only [List.length_map, List.length_range, Nat.sub_self]
  rw [show 256 - i = (256 - (i + 1)) + 1 from by omega, List.replicate_succ, List.set_cons_zero, List.range_succ, List.map_append]
  simp
theorem tab_get (i : Nat) (h : i < 256) : (tab 256).getD i 0 = iv (entry i) := by
  unfold tab
  simp [List.getD_eq_getElem?_getD, h]
theorem table_ok (h : List HObj) : ACalls Try.prog F.gantref5_table [] h (fun r h' => r = .agg (ints .u32 (tab 256)) ∧ h' = h) := by
  refine ACalls.of_aw Try.func149 K.gantref5_table (by simp [Try.f149]) ?_
  generalize hQ : retQ R.gantref5_table _ = Q
  simp (disch := first | assumption | omega) only [C.gantref5_table, go_sem, ↓reduceIte, reduceCtorEq, reduceIte, Bool.true_and]
  refine aw_count (fun d S => ∃ (i : Nat), i + d = 256 ∧ S.env 4 = .int .i64 i ∧ S.boxes 1 = some (ints .u32 (tab i)) ∧ S.boxes 0 = some (ints .u32 (List.replicate 256 0)) ∧ S.env 1 = .box 1 0 ∧ S.env 0 = .box 0 0 ∧ S.heap = h) (n := 256) ⟨0, by simp [go_sem, tab, ints]⟩ ?_
  rintro d S ⟨i, hi, e4, e1, e0, x1, x0, eh⟩
  simp (disch := first | assumption | omega) only [e4, go_sem, ↓reduceIte, reduceIte, Bool.true_and]
  refine condG_if (fun hlt => ?_) fun hge => ?_
  · have hlt : i < 256 := by omega
    simp (disch := first | assumption | omega) only [e4, go_sem, ↓reduceIte, Nat.reduceEqDiff, wrapU32, reduceIte, Bool.true_and]
    refine aw_count (fun d' S' => ∃ (j : Nat), j + d' = 8 ∧ S'.env 9 = .int .i64 j ∧ S'.env 4 = .int .i64 i ∧ S'.env 2 = .int .i64 i ∧ S'.boxes 1 = some (ints .u32 (tab i)) ∧ S'.boxes 0 = some (ints .u32 (List.replicate 256 0)) ∧
      S'.env 3 = .int .u32 (iv (rnds j (BitVec.ofNat 32 i))) ∧ S'.env 1 = .box 1 0 ∧ S'.env 0 = .box 0 0 ∧ S'.heap = h) (n := 8) ⟨0, by simp [go_sem, rnds, *]; unfold iv; rw [BitVec.toNat_ofNat]; omega⟩ ?_
    clear e4 e1 e0 x1 x0 eh
    rintro d' S' ⟨j, hj, e9, e4, e2, e1, e0, e3, x1, x0, eh⟩
    simp (disch := first | assumption | omega) only [e9, go_sem, ↓reduceIte, reduceIte, Bool.true_and]
    refine condG_if (fun hlt2 => ?_) fun hge2 => ?_
    · have h0 := (iv_bd (rnds j (BitVec.ofNat 32 i))).1
      have h1 := iv_bd (rnds j (BitVec.ofNat 32 i) >>> 1)
      have h2 := half_iv (rnds j (BitVec.ofNat 32 i))
      simp (disch := first | assumption | omega) only [e3, go_sem, ↓reduceIte, Nat.reduceEqDiff, reduceIte, Int.reduceNe, Bool.true_and]
      refine condG_split (fun hb => ?_) fun hb => ?_
      · simp (disch := first | assumption | omega) only [e4, e1, e0, x1, x0, eh, e9, e2, e3, h2, xor32, bv_iv, go_sem, ↓reduceIte, Nat.reduceEqDiff, reduceCtorEq, wrapU32, reduceIte, Int.reduceNe, Bool.true_and]
        refine ⟨d' - 1, by omega, j + 1, by omega, by simp, ?_⟩
        rw [rnds_succ, rnd_odd hb]; rfl
      · simp (disch := first | assumption | omega) only [e4, e1, e0, x1, x0, eh, e9, e2, e3, h2, go_sem, ↓reduceIte, Nat.reduceEqDiff, reduceCtorEq, wrapU32, reduceIte, Int.reduceNe, Bool.true_and]
        refine ⟨d' - 1, by omega, j + 1, by omega, by simp, ?_⟩
        rw [rnds_succ, rnd_even hb]
    · obtain rfl : j = 8 := by omega
      simp (disch := first | assumption | omega) only [e4, e1, e0, x1, x0, eh, e2, e3, ints_length, tab_length, go_sem, ↓reduceIte, Nat.reduceEqDiff, reduceCtorEq, Nat.reduceLeDiff, reduceIte, Int.natCast_nonneg, Int.ofNat_lt, Bool.true_and]
      refine ⟨hlt, by omega, d - 1, by omega, i + 1, by omega, by simp, ?_⟩
      have hl := tab_length i (by omega)
      rw [Nat.mul_one, ints_set _ _ _ (by omega), ← tab_set i hlt]
      rfl
  · obtain rfl : i = 256 := by omega
    have hl := tab_length 256 (by omega)
    have e5 : (ints .u32 (tab 256)).take 256 = ints .u32 (tab 256) := List.take_of_length_le (by simp [ints, hl])
    have e6 := ints_storC (k := .u32) (tab 256)
    have e7 : fillV (ints .u32 (List.replicate 256 0)) 0 (ints .u32 (tab 256)) = ints .u32 (tab 256) := by
      simp [fillV, ints, hl]
    rw [List.all_eq_true] at e6
    have e8 : (ints .u32 (tab 256)).all storC = true := by rw [List.all_eq_true]; intro v hv; obtain ⟨n, _, rfl⟩ := List.mem_map.1 hv; rfl
    simp (disch := first | assumption | omega) only [e1, e0, x1, x0, e5, ints_rdc, ints_length, hl, List.length_replicate, e8, e7, go_sem, ↓reduceIte, Nat.reduceEqDiff, reduceCtorEq, Nat.reduceLeDiff, reduceIte, Bool.true_and]
    subst hQ
    simp (disch := first | assumption | omega) only [R.gantref5_table, x0, eh, ints_length, hl, go_sem, ↓reduceIte, reduceCtorEq, reduceIte]
theorem xor8 (x y : Int) : bitsV .xor .u8 x y = ((BitVec.ofInt 8 x ^^^ BitVec.ofInt 8 y).toNat : Int) := by
  show IntKind.u8.wrap _ = _
  exact wrapU8 (by omega) (by have := (BitVec.ofInt 8 x ^^^ BitVec.ofInt 8 y).isLt; exact Int.ofNat_lt.2 this)
theorem tab_index (b : BitVec 32) (x : Int) (h1 : 0 ≤ x) (h2 : x < 256) : (BitVec.ofInt 8 (iv b % 256) ^^^ BitVec.ofInt 8 x).toNat = (b.toNat % 256) ^^^ x.toNat := by
  rw [BitVec.toNat_xor, BitVec.toNat_ofInt, BitVec.toNat_ofInt]
  unfold iv
  congr 1 <;> omega
theorem index_lt (b : BitVec 32) (x : Int) (h1 : 0 ≤ x) (h2 : x < 256) : (b.toNat % 256) ^^^ x.toNat < 256 :=
  Nat.xor_lt_two_pow (n := 8) (by omega) (by omega)
theorem Crc_ok (o : Own) (l : List Int) (ho : Rdo o) (hb : ∀ x ∈ l, inU8 x) (hl : l.length < 4611686018427387904) (h : List HObj) :
    ACalls Try.prog F.gantref5_Crc [.lst o (ints .u8 l)] h (fun r h' => r = .int .u32 (iv (crc l)) ∧ h' = h) := by
  refine ACalls.of_aw Try.func50 K.gantref5_Crc (by simp [Try.f50]) ?_
  generalize hQ : retQ R.gantref5_Crc _ = Q
  simp (disch := first | assumption | omega) only [C.gantref5_Crc, go_sem, Bool.true_and]
  have hl256 := tab_length 256 (by omega)
  have e8 : (ints .u32 (tab 256)).all storC = true := by rw [List.all_eq_true]; intro v hv; obtain ⟨n, _, rfl⟩ := List.mem_map.1 hv; rfl
  have e7 : fillV (List.replicate 256 (AVal.int .u32 0)) 0 (ints .u32 (tab 256)) = ints .u32 (tab 256) := by
    simp [fillV, ints, hl256]
  refine callG_ok (table_ok _) (by simp (disch := first | assumption | omega) only [go_sem]) ?_
  rintro _ _ ⟨rfl, hhh⟩
  try rw [hhh]
  clear hhh
  simp (disch := first | assumption | omega) only [ints_length, hl256, e8, e7, List.length_replicate, go_sem, ↓reduceIte, Nat.reduceEqDiff, reduceCtorEq, Nat.reduceLeDiff, reduceIte, Bool.true_and]
  refine aw_count (fun d S => ∃ (i : Nat), i + d = l.length ∧ S.env 10 = .int .i64 i ∧ S.env 9 = .int .i64 l.length ∧ S.env 8 = .lst o (ints .u8 l) ∧ S.env 3 = .box 3 0 ∧ S.boxes 3 = some (ints .u32 (tab 256)) ∧
    S.env 4 = .int .u32 (iv (sumFrom (bv 4294967295) (l.take i))) ∧ S.heap = h) (n := l.length) ⟨0, by simp [go_sem, sumFrom]; rfl⟩ ?_
  rintro d S ⟨i, hi, e10, e9, e8, e3, b3, e4, eh⟩
  simp (disch := first | assumption | omega) only [e10, e9, go_sem, ↓reduceIte, reduceIte, Int.ofNat_lt, Bool.true_and]
  refine condG_if (fun hlt => ?_) fun hge => ?_
  · have hlt : i < l.length := by omega
    have hx := hb _ (List.getElem_mem hlt)
    unfold inU8 at hx
    have hstep := sumFrom_take (bv 4294967295) l i hlt
    have hat := at_ints' (k := .u8) l i hlt
    rw [show l.getD i 0 = l[i] from by simp [List.getD_eq_getElem?_getD, hlt]] at hat
    generalize sumFrom (bv 4294967295) (l.take i) = s at *
    generalize l[i] = x at *
    have h0 := (iv_bd s).1
    have hJ := index_lt s x hx.1 hx.2
    have hget : (ints .u32 (tab 256)).getD ((s.toNat % 256) ^^^ x.toNat) .junk = .int .u32 (iv (entry ((s.toNat % 256) ^^^ x.toNat))) := by
      rw [getD_ints _ _ (by omega), tab_get _ hJ]
    have hq : iv s / (256 : Int) = iv (s >>> 8) := by
      unfold iv; rw [BitVec.toNat_ushiftRight, Nat.shiftRight_eq_div_pow]; omega
    simp (disch := first | assumption | omega) only [e10, e9, e8, e3, b3, e4, eh, hat, hlt, wrapU8_mod, xor8, tab_index s x hx.1 hx.2, Nat.mul_one, hget, hq, wrap_iv, xor32, bv_iv, go_sem, ↓reduceIte, Nat.reduceEqDiff, Nat.reduceLeDiff, Nat.reduceLT, reduceIte, Int.natCast_nonneg, Int.ofNat_lt, Int.reduceLT, Int.reduceNe, decide_true, Bool.true_and]
    refine ⟨by omega, by omega, d - 1, by omega, i + 1, by omega, by simp, ?_⟩
    rw [hstep, tab_step s x hx.1 hx.2]
  · obtain rfl : i = l.length := by omega
    simp (disch := first | assumption | omega) only [e4, go_sem, ↓reduceIte, Nat.reduceEqDiff, reduceIte, Bool.true_and]
    subst hQ
    simp (disch := first | assumption | omega) only [R.gantref5_Crc, go_sem, ↓reduceIte, reduceIte, Bool.true_and]
    rw [List.take_length]
    simp only [xor32, bv_iv]
    exact ⟨rfl, eh⟩
end Go.Proofs.Ytpdajkbfemcdlaa
namespace Go.Proofs.Ytpdajkbfemcdlaa
open Go.Ge
def C.slices_Grow_byte : ACode :=
  .seq (.region [⟨some 4, .move false (.c (.lst .nil [])), none⟩]) (
  .seq (.seq (.region [.m 5 1,⟨some 6, .bin .lss (.t 5) (.c (.int .i64 0)), none⟩]) (
  .cond (.t 6) (.region [⟨some 7, .refuse, none⟩,⟨none, .refuse, none⟩]) (.skip))) (
  .seq (.seq (.region [.m 8 1,.m 9 0,⟨some 10, .capR (.t 9), none⟩,.m 11 0,⟨some 12, .len (.t 11), none⟩,⟨some 13, .bin .sub (.t 10) (.t 12), none⟩,⟨some 14, .bin .sub (.t 8) (.t 13), none⟩,.m 1 14]) (
  .seq (.region [.m 15 1,⟨some 16, .bin .gtr (.t 15) (.c (.int .i64 0)), none⟩]) (
  .cond (.t 16) (.region [.m 17 0,.m 18 0,⟨some 19, .capR (.t 18), none⟩,⟨some 20, .slnil (.t 17) (.t 19), none⟩,.m 21 1,⟨some 22, .hop (.appendZ 1 1 (.t 20) (.t 21)), none⟩,.m 23 0,⟨some 24, .len (.t 23), none⟩,⟨some 25, .slice 1 (.t 22) none (some (.t 24)) none, none⟩,.m 0 25]) (.skip)))) (
  .seq (.region [.m 26 0,.m 4 26]) (
  .own 4 false 1 (.ret)))))
def R.slices_Grow_byte : List ARes := [.t 4]
set_option maxRecDepth 100000 in
theorem K.slices_Grow_byte : ckFun Try.prog Try.f160 C.slices_Grow_byte R.slices_Grow_byte = true := by kernel_rfl
def C.slices_Concat_byte : ACode :=
  .seq (.region [⟨some 2, .move false (.c (.lst .nil [])), none⟩]) (
  .seq (.region [⟨some 3, .move false (.c (.int .i64 0)), none⟩]) (
  .seq (.seq (.region [.m 9 0,⟨some 10, .len (.t 9), none⟩,⟨some 11, .move false (.c (.int .i64 0)), none⟩]) (
  .block 0 (.loop (.seq (.region [⟨some 12, .bin .lss (.t 11) (.t 10), none⟩]) (
  .seq (.cond (.t 12) (.skip) (.exit 0)) (
  .seq (.block 1 (.seq (.region [⟨some 13, .iaddr 1 (.t 9) (.t 11), none⟩,⟨some 14, .load 2 false 1 (.t 13), none⟩,.m 5 14]) (
  .seq (.region [.m 15 3,.m 16 5,⟨some 17, .len (.t 16), none⟩,⟨some 18, .bin .add (.t 15) (.t 17), none⟩,.m 3 18]) (
  .seq (.region [.m 19 3,⟨some 20, .bin .lss (.t 19) (.c (.int .i64 0)), none⟩]) (
  .cond (.t 20) (.region [⟨some 21, .refuse, none⟩,⟨none, .refuse, none⟩]) (.skip)))))) (
  .region [⟨some 22, .bin .add (.t 11) (.c (.int .i64 1)), none⟩,.m 11 22]))))))) (
  .seq (.region [.m 23 3,⟨some 24, .call true F.slices_Grow_byte [(.c (.lst .nil [])), (.t 23)], none⟩,⟨some 6, .move true (.t 24), none⟩]) (
  .seq (.seq (.region [.m 25 0,⟨some 26, .len (.t 25), none⟩,⟨some 27, .move false (.c (.int .i64 0)), none⟩]) (
  .block 2 (.loop (.seq (.region [⟨some 28, .bin .lss (.t 27) (.t 26), none⟩]) (
  .seq (.cond (.t 28) (.skip) (.exit 2)) (
  .seq (.block 3 (.seq (.region [⟨some 29, .iaddr 1 (.t 25) (.t 27), none⟩,⟨some 30, .load 2 false 1 (.t 29), none⟩,.m 8 30]) (
  .region [⟨some 31, .move true (.t 6), none⟩,.m 32 8,⟨some 33, .append 1 1 (.t 31) (.t 32), none⟩,⟨some 6, .move true (.t 33), none⟩]))) (
  .region [⟨some 34, .bin .add (.t 27) (.c (.int .i64 1)), none⟩,.m 27 34]))))))) (
  .seq (.region [⟨some 35, .move true (.t 6), none⟩,⟨some 2, .move true (.t 35), none⟩]) (
  .ret))))))
def R.slices_Concat_byte : List ARes := [.t 2]
set_option maxRecDepth 100000 in
theorem K.slices_Concat_byte : ckFun Try.prog Try.f79 C.slices_Concat_byte R.slices_Concat_byte = true := by kernel_rfl
def C.log_scan : ACode :=
  .seq (.region [⟨some 2, .move false (.c (.lst .nil [])), none⟩,⟨some 3, .move false (.c (.int .i64 0)), none⟩,⟨some 4, .move false (.c (.int .u32 0)), none⟩]) (
  .block 0 (.loop (.block 1 (.seq (.region [.m 9 0,.m 10 3,⟨some 11, .slice 1 (.t 9) (some (.t 10)) none none, none⟩,.m 5 11]) (
  .seq (.seq (.region [.m 12 5,⟨some 13, .len (.t 12), none⟩,⟨some 14, .bin .lss (.t 13) (.c (.int .i64 6)), none⟩]) (
  .cond (.t 14) (.seq (.region [⟨some 15, .move true (.t 2), none⟩,.m 16 3,.m 17 4,⟨some 2, .move true (.t 15), none⟩,.m 3 16,.m 4 17]) (
  .ret)) (.skip))) (
  .seq (.drawn [0, 1, 2, 3, 4, 5, 6, 7, 8, 9, 10] [0, 1, 3, 7, 15, 0, 32, 96, 224, 511, 1023] [.m 18 5,⟨some 19, .iaddr 1 (.t 18) (.c (.int .i64 0)), none⟩,⟨some 20, .load 0 false 1 (.t 19), none⟩,⟨some 21, .conv .i64 (.t 20), none⟩,⟨some 22, .bin .shl (.t 21) (.c (.int .u64 8)), none⟩,.m 23 5,⟨some 24, .iaddr 1 (.t 23) (.c (.int .i64 1)), none⟩,⟨some 25, .load 0 false 1 (.t 24), none⟩,⟨some 26, .conv .i64 (.t 25), none⟩,⟨some 27, .bin .or (.t 22) (.t 26), none⟩,.m 6 27]) (
  .seq (.seq (.region [.m 28 6,⟨some 29, .bin .gtr (.t 28) (.c (.int .i64 2000)), none⟩,.m 30 29,⟨some 31, .move false (.t 5), (some (30, false))⟩,⟨some 32, .len (.t 31), (some (30, false))⟩,⟨some 33, .move false (.t 6), (some (30, false))⟩,⟨some 34, .bin .add (.c (.int .i64 6)) (.t 33), (some (30, false))⟩,⟨some 35, .bin .lss (.t 32) (.t 34), (some (30, false))⟩,⟨some 36, .pick (.t 30) (.c (.bool true)) (.t 35), none⟩]) (
  .cond (.t 36) (.seq (.region [⟨some 37, .move true (.t 2), none⟩,.m 38 3,.m 39 4,⟨some 2, .move true (.t 37), none⟩,.m 3 38,.m 4 39]) (
  .ret)) (.skip))) (
  .seq (.region [.m 40 5,.m 41 6,⟨some 42, .bin .add (.c (.int .i64 2)) (.t 41), none⟩,⟨some 43, .slice 1 (.t 40) (some (.c (.int .i64 2))) (some (.t 42)) none, none⟩,.m 7 43]) (
  .seq (.region [.m 44 4,.m 45 7,⟨some 46, .call true F.log_sum [(.t 44), (.t 45)], none⟩,.m 8 46]) (
  .seq (.seq (.drawn [0, 1, 2, 3, 4, 5, 6, 7, 8, 9] [0, 0, 2, 0, 8, 31, 0, 64, 255, 511] [.m 47 5,.m 48 6,⟨some 49, .bin .add (.c (.int .i64 2)) (.t 48), none⟩,.m 50 6,⟨some 51, .bin .add (.c (.int .i64 6)) (.t 50), none⟩,⟨some 52, .slice 1 (.t 47) (some (.t 49)) (some (.t 51)) none, none⟩,.m 53 8,⟨some 54, .call false F.log_four [(.t 53)], none⟩,⟨some 55, .call false F.slices_Equal_byte [(.t 52), (.t 54)], none⟩,⟨some 56, .un .not (.t 55), none⟩]) (
  .cond (.t 56) (.seq (.region [⟨some 57, .move true (.t 2), none⟩,.m 58 3,.m 59 4,⟨some 2, .move true (.t 57), none⟩,.m 3 58,.m 4 59]) (
  .ret)) (.skip))) (
  .region [⟨some 60, .move true (.t 2), none⟩,⟨some 61, .buildS false 1 [], none⟩,.m 62 7,⟨some 63, .append 1 1 (.t 61) (.t 62), none⟩,⟨some 64, .buildS false 1 [(.t 63)], none⟩,⟨some 65, .append 1 24 (.t 60) (.t 64), none⟩,.m 66 3,⟨some 67, .bin .add (.t 66) (.c (.int .i64 6)), none⟩,.m 68 6,⟨some 69, .bin .add (.t 67) (.t 68), none⟩,.m 70 8,⟨some 2, .move true (.t 65), none⟩,.m 3 69,.m 4 70])))))))))))
def R.log_scan : List ARes := [.t 2, .t 3, .t 4]
set_option maxRecDepth 100000 in
theorem K.log_scan : ckFun Try.prog Try.f151 C.log_scan R.log_scan = true := by kernel_rfl
def C.log_four : ACode :=
  .seq (.region [⟨some 2, .move false (.c (.lst .nil [])), none⟩]) (
  .seq (.region [.m 3 0,⟨some 4, .bin .shr (.t 3) (.c (.int .u64 24)), none⟩,⟨some 5, .conv .u8 (.t 4), none⟩,.m 6 0,⟨some 7, .bin .shr (.t 6) (.c (.int .u64 16)), none⟩,⟨some 8, .conv .u8 (.t 7), none⟩,.m 9 0,⟨some 10, .bin .shr (.t 9) (.c (.int .u64 8)), none⟩,⟨some 11, .conv .u8 (.t 10), none⟩,.m 12 0,⟨some 13, .conv .u8 (.t 12), none⟩,⟨some 14, .buildS false 1 [(.t 5), (.t 8), (.t 11), (.t 13)], none⟩,⟨some 2, .move true (.t 14), none⟩]) (
  .ret))
def R.log_four : List ARes := [.t 2]
set_option maxRecDepth 100000 in
theorem K.log_four : ckFun Try.prog Try.f152 C.log_four R.log_four = true := by kernel_rfl
def C.log_sum : ACode :=
  .seq (.region [⟨some 4, .move false (.c (.int .u32 0)), none⟩]) (
  .seq (.region [.m 5 0,⟨some 6, .call true F.log_four [(.t 5)], none⟩,.m 7 1,⟨some 8, .len (.t 7), none⟩,⟨some 9, .bin .shr (.t 8) (.c (.int .u64 8)), none⟩,⟨some 10, .conv .u8 (.t 9), none⟩,.m 11 1,⟨some 12, .len (.t 11), none⟩,⟨some 13, .conv .u8 (.t 12), none⟩,⟨some 14, .buildS false 1 [(.t 10), (.t 13)], none⟩,.m 15 1,⟨some 16, .buildS false 1 [(.t 6), (.t 14), (.t 15)], none⟩,⟨some 17, .call true F.slices_Concat_byte [(.t 16)], none⟩,⟨some 18, .call true F.msg_Sum [(.t 17)], none⟩,.m 4 18]) (
  .ret))
def R.log_sum : List ARes := [.t 4]
set_option maxRecDepth 100000 in
theorem K.log_sum : ckFun Try.prog Try.f153 C.log_sum R.log_sum = true := by kernel_rfl
def C.log_Add : ACode :=
  .seq (.region [⟨some 4, .move false (.c (.lst .nil [])), none⟩,⟨some 5, .move false (.c (.int .i64 0)), none⟩]) (
  .seq (.seq (.region [.m 10 1,⟨some 11, .len (.t 10), none⟩,⟨some 12, .bin .gtr (.t 11) (.c (.int .i64 2000)), none⟩]) (
  .cond (.t 12) (.seq (.region [⟨some 4, .move false (.c (.lst .nil [])), none⟩,⟨some 5, .move false (.c (.int .i64 2)), none⟩]) (
  .ret)) (.skip))) (
  .seq (.region [.m 14 0,⟨some 15, .call true F.log_scan [(.t 14)], none⟩,.m 13 15,⟨some 16, .ext 0 (.t 13), none⟩,⟨some 17, .ext 1 (.t 13), none⟩,⟨some 18, .ext 2 (.t 13), none⟩,.m 6 16,.m 7 17,.m 8 18]) (
  .seq (.seq (.region [.m 19 7,⟨some 20, .bin .add (.t 19) (.c (.int .i64 6)), none⟩,.m 21 1,⟨some 22, .len (.t 21), none⟩,⟨some 23, .bin .add (.t 20) (.t 22), none⟩,⟨some 24, .bin .gtr (.t 23) (.c (.int .i64 100000)), none⟩]) (
  .cond (.t 24) (.seq (.region [⟨some 4, .move false (.c (.lst .nil [])), none⟩,⟨some 5, .move false (.c (.int .i64 6)), none⟩]) (
  .ret)) (.skip))) (
  .seq (.region [⟨some 25, .buildS false 1 [], none⟩,.m 26 0,.m 27 7,⟨some 28, .slice 1 (.t 26) none (some (.t 27)) none, none⟩,⟨some 29, .append 1 1 (.t 25) (.t 28), none⟩,⟨some 9, .move true (.t 29), none⟩]) (
  .seq (.region [⟨some 30, .move true (.t 9), none⟩,.m 31 1,⟨some 32, .len (.t 31), none⟩,⟨some 33, .bin .shr (.t 32) (.c (.int .u64 8)), none⟩,⟨some 34, .conv .u8 (.t 33), none⟩,.m 35 1,⟨some 36, .len (.t 35), none⟩,⟨some 37, .conv .u8 (.t 36), none⟩,⟨some 38, .buildS false 1 [(.t 34), (.t 37)], none⟩,⟨some 39, .append 1 1 (.t 30) (.t 38), none⟩,⟨some 9, .move true (.t 39), none⟩]) (
  .seq (.region [⟨some 40, .move true (.t 9), none⟩,.m 41 1,⟨some 42, .append 1 1 (.t 40) (.t 41), none⟩,⟨some 9, .move true (.t 42), none⟩]) (
  .seq (.region [⟨some 43, .move true (.t 9), none⟩,.m 44 8,.m 45 1,⟨some 46, .call true F.log_sum [(.t 44), (.t 45)], none⟩,⟨some 47, .call true F.log_four [(.t 46)], none⟩,⟨some 48, .append 1 1 (.t 43) (.t 47), none⟩,⟨some 4, .move true (.t 48), none⟩,⟨some 5, .move false (.c (.int .i64 0)), none⟩]) (
  .ret))))))))
def R.log_Add : List ARes := [.t 4, .t 5]
set_option maxRecDepth 100000 in
theorem K.log_Add : ckFun Try.prog Try.f61 C.log_Add R.log_Add = true := by kernel_rfl
def C.slices_Equal_byte : ACode :=
  .seq (.region [⟨some 4, .move false (.c (.bool false)), none⟩]) (
  .seq (.seq (.region [.m 6 0,⟨some 7, .len (.t 6), none⟩,.m 8 1,⟨some 9, .len (.t 8), none⟩,⟨some 10, .bin .neq (.t 7) (.t 9), none⟩]) (
  .cond (.t 10) (.seq (.region [⟨some 4, .move false (.c (.bool false)), none⟩]) (
  .ret)) (.skip))) (
  .seq (.seq (.region [.m 11 0,⟨some 12, .len (.t 11), none⟩,⟨some 13, .move false (.c (.int .i64 0)), none⟩]) (
  .block 0 (.loop (.seq (.region [⟨some 14, .bin .lss (.t 13) (.t 12), none⟩]) (
  .seq (.cond (.t 14) (.skip) (.exit 0)) (
  .seq (.block 1 (.seq (.region [.m 15 13,.m 5 15]) (
  .seq (.drawn [0, 1, 2, 3, 4, 5, 6, 7, 8] [0, 0, 3, 7, 0, 0, 48, 112, 255] [.m 16 0,.m 17 5,⟨some 18, .iaddr 1 (.t 16) (.t 17), none⟩,⟨some 19, .load 0 false 1 (.t 18), none⟩,.m 20 1,.m 21 5,⟨some 22, .iaddr 1 (.t 20) (.t 21), none⟩,⟨some 23, .load 0 false 1 (.t 22), none⟩,⟨some 24, .bin .neq (.t 19) (.t 23), none⟩]) (
  .cond (.t 24) (.seq (.region [⟨some 4, .move false (.c (.bool false)), none⟩]) (
  .ret)) (.skip))))) (
  .region [⟨some 25, .bin .add (.t 13) (.c (.int .i64 1)), none⟩,.m 13 25]))))))) (
  .seq (.region [⟨some 4, .move false (.c (.bool true)), none⟩]) (
  .ret))))
def R.slices_Equal_byte : List ARes := [.t 4]
set_option maxRecDepth 100000 in
theorem K.slices_Equal_byte : ckFun Try.prog Try.f65 C.slices_Equal_byte R.slices_Equal_byte = true := by kernel_rfl
def C.slices_Clone_bs : ACode :=
  .seq (.region [⟨some 2, .move false (.c (.lst .nil [])), none⟩]) (
  .seq (.seq (.region [.m 3 0,⟨some 4, .isnil false false (.t 3), none⟩]) (
  .cond (.t 4) (.seq (.region [⟨some 2, .move false (.c (.lst .nil [])), none⟩]) (
  .ret)) (.skip))) (
  .seq (.region [⟨some 5, .buildS false 1 [], none⟩,.m 6 0,⟨some 7, .append 1 24 (.t 5) (.t 6), none⟩,⟨some 2, .move true (.t 7), none⟩]) (
  .ret)))
def R.slices_Clone_bs : List ARes := [.t 2]
set_option maxRecDepth 100000 in
theorem K.slices_Clone_bs : ckFun Try.prog Try.f64 C.slices_Clone_bs R.slices_Clone_bs = true := by kernel_rfl
def C.gantref5_Records : ACode :=
  .seq (.region [⟨some 2, .move false (.c (.lst .nil [])), none⟩,⟨some 3, .move false (.c (.int .i64 0)), none⟩]) (
  .seq (.region [⟨some 4, .move false (.c (.lst .nil [])), none⟩]) (
  .seq (.region [⟨some 5, .move false (.c (.int .i64 0)), none⟩]) (
  .seq (.region [⟨some 10, .buildS false 1 [(.c (.int .u8 0)), (.c (.int .u8 0)), (.c (.int .u8 0)), (.c (.int .u8 0))], none⟩,.m 6 10]) (
  .block 0 (.loop (.block 1 (.seq (.region [.m 11 0,.m 12 5,⟨some 13, .slice 1 (.t 11) (some (.t 12)) none none, none⟩,.m 7 13]) (
  .seq (.seq (.region [.m 14 7,⟨some 15, .len (.t 14), none⟩,⟨some 16, .bin .lss (.t 15) (.c (.int .i64 2)), none⟩]) (
  .cond (.t 16) (.seq (.region [⟨some 17, .move true (.t 4), none⟩,.m 18 5,⟨some 2, .move true (.t 17), none⟩,.m 3 18]) (
  .ret)) (.skip))) (
  .seq (.region [.m 19 7,⟨some 20, .slice 1 (.t 19) none (some (.c (.int .i64 2))) none, none⟩,⟨some 21, .call true F.gantref5_Value [(.t 20)], none⟩,.m 8 21]) (
  .seq (.seq (.region [.m 22 8,⟨some 23, .bin .gtr (.t 22) (.c (.int .i64 2000)), none⟩,.m 24 23,⟨some 25, .move false (.t 7), (some (24, false))⟩,⟨some 26, .len (.t 25), (some (24, false))⟩,⟨some 27, .move false (.t 8), (some (24, false))⟩,⟨some 28, .bin .add (.t 27) (.c (.int .i64 6)), (some (24, false))⟩,⟨some 29, .bin .lss (.t 26) (.t 28), (some (24, false))⟩,⟨some 30, .pick (.t 24) (.c (.bool true)) (.t 29), none⟩]) (
  .cond (.t 30) (.seq (.region [⟨some 31, .move true (.t 4), none⟩,.m 32 5,⟨some 2, .move true (.t 31), none⟩,.m 3 32]) (
  .ret)) (.skip))) (
  .seq (.region [.m 33 6,.m 34 7,.m 35 8,⟨some 36, .bin .add (.c (.int .i64 2)) (.t 35), none⟩,⟨some 37, .slice 1 (.t 34) none (some (.t 36)) none, none⟩,⟨some 38, .buildS false 1 [(.t 33), (.t 37)], none⟩,⟨some 39, .call true F.slices_Concat_byte [(.t 38)], none⟩,⟨some 40, .call true F.gantref5_Crc [(.t 39)], none⟩,⟨some 41, .conv .u64 (.t 40), none⟩,⟨some 42, .call true F.gantref5_Bytes [(.t 41), (.c (.int .i64 4))], none⟩,.m 9 42]) (
  .seq (.seq (.drawn [0, 1, 2, 3, 4, 5, 6, 7, 8, 9] [0, 1, 0, 0, 8, 0, 32, 124, 252, 511] [.m 43 9,⟨some 44, .b2s (.t 43), none⟩,.m 45 7,.m 46 8,⟨some 47, .bin .add (.c (.int .i64 2)) (.t 46), none⟩,.m 48 8,⟨some 49, .bin .add (.c (.int .i64 6)) (.t 48), none⟩,⟨some 50, .slice 1 (.t 45) (some (.t 47)) (some (.t 49)) none, none⟩,⟨some 51, .b2s (.t 50), none⟩,⟨some 52, .bin .neq (.t 44) (.t 51), none⟩]) (
  .cond (.t 52) (.seq (.region [⟨some 53, .move true (.t 4), none⟩,.m 54 5,⟨some 2, .move true (.t 53), none⟩,.m 3 54]) (
  .ret)) (.skip))) (
  .seq (.region [⟨some 55, .move true (.t 4), none⟩,.m 56 7,.m 57 8,⟨some 58, .bin .add (.c (.int .i64 2)) (.t 57), none⟩,⟨some 59, .slice 1 (.t 56) (some (.c (.int .i64 2))) (some (.t 58)) none, none⟩,⟨some 60, .buildS false 1 [(.t 59)], none⟩,⟨some 61, .append 1 24 (.t 55) (.t 60), none⟩,⟨some 4, .move true (.t 61), none⟩]) (
  .seq (.region [.m 62 9,.m 6 62]) (
  .region [.m 63 5,.m 64 8,⟨some 65, .bin .add (.t 64) (.c (.int .i64 6)), none⟩,⟨some 66, .bin .add (.t 63) (.t 65), none⟩,.m 5 66])))))))))))))))
def R.gantref5_Records : List ARes := [.t 2, .t 3]
set_option maxRecDepth 100000 in
theorem K.gantref5_Records : ckFun Try.prog Try.f67 C.gantref5_Records R.gantref5_Records = true := by kernel_rfl
def C.gantref5_Book : ACode :=
  .seq (.region [⟨some 2, .move false (.c (.lst .nil [])), none⟩]) (
  .seq (.region [⟨some 3, .move false (.c (.lst .nil [])), none⟩]) (
  .seq (.region [⟨some 8, .buildS false 1 [(.c (.int .u8 0)), (.c (.int .u8 0)), (.c (.int .u8 0)), (.c (.int .u8 0))], none⟩,.m 4 8]) (
  .seq (.seq (.region [.m 9 0,⟨some 10, .len (.t 9), none⟩,⟨some 11, .move false (.c (.int .i64 0)), none⟩]) (
  .block 0 (.loop (.seq (.region [⟨some 12, .bin .lss (.t 11) (.t 10), none⟩]) (
  .seq (.cond (.t 12) (.skip) (.exit 0)) (
  .seq (.block 1 (.seq (.region [⟨some 13, .iaddr 1 (.t 9) (.t 11), none⟩,⟨some 14, .load 2 false 1 (.t 13), none⟩,.m 6 14]) (
  .seq (.region [.m 15 6,⟨some 16, .len (.t 15), none⟩,⟨some 17, .conv .u64 (.t 16), none⟩,⟨some 18, .call true F.gantref5_Bytes [(.t 17), (.c (.int .i64 2))], none⟩,.m 19 6,⟨some 20, .buildS false 1 [(.t 18), (.t 19)], none⟩,⟨some 21, .call true F.slices_Concat_byte [(.t 20)], none⟩,.m 7 21]) (
  .seq (.region [.m 22 4,.m 23 7,⟨some 24, .buildS false 1 [(.t 22), (.t 23)], none⟩,⟨some 25, .call true F.slices_Concat_byte [(.t 24)], none⟩,⟨some 26, .call true F.gantref5_Crc [(.t 25)], none⟩,⟨some 27, .conv .u64 (.t 26), none⟩,⟨some 28, .call true F.gantref5_Bytes [(.t 27), (.c (.int .i64 4))], none⟩,.m 4 28]) (
  .region [.m 29 3,.m 30 7,.m 31 4,⟨some 32, .buildS false 1 [(.t 29), (.t 30), (.t 31)], none⟩,⟨some 33, .call true F.slices_Concat_byte [(.t 32)], none⟩,⟨some 3, .move true (.t 33), none⟩]))))) (
  .region [⟨some 34, .bin .add (.t 11) (.c (.int .i64 1)), none⟩,.m 11 34]))))))) (
  .seq (.region [⟨some 35, .move true (.t 3), none⟩,⟨some 2, .move true (.t 35), none⟩]) (
  .ret)))))
def R.gantref5_Book : List ARes := [.t 2]
set_option maxRecDepth 100000 in
theorem K.gantref5_Book : ckFun Try.prog Try.f69 C.gantref5_Book R.gantref5_Book = true := by kernel_rfl
def C.gantref5_Value : ACode :=
  .seq (.region [⟨some 2, .move false (.c (.int .i64 0)), none⟩]) (
  .seq (.region [⟨some 3, .move false (.c (.int .i64 0)), none⟩]) (
  .seq (.seq (.region [.m 6 0,⟨some 7, .len (.t 6), none⟩,⟨some 8, .move false (.c (.int .i64 0)), none⟩]) (
  .block 0 (.loop (.seq (.region [⟨some 9, .bin .lss (.t 8) (.t 7), none⟩]) (
  .seq (.cond (.t 9) (.skip) (.exit 0)) (
  .seq (.block 1 (.seq (.region [⟨some 10, .iaddr 1 (.t 6) (.t 8), none⟩,⟨some 11, .load 2 false 1 (.t 10), none⟩,.m 5 11]) (
  .region [.m 12 3,⟨some 13, .bin .mul (.c (.int .i64 256)) (.t 12), none⟩,.m 14 5,⟨some 15, .conv .i64 (.t 14), none⟩,⟨some 16, .bin .add (.t 13) (.t 15), none⟩,.m 3 16]))) (
  .region [⟨some 17, .bin .add (.t 8) (.c (.int .i64 1)), none⟩,.m 8 17]))))))) (
  .seq (.region [.m 18 3,.m 2 18]) (
  .ret))))
def R.gantref5_Value : List ARes := [.t 2]
set_option maxRecDepth 100000 in
theorem K.gantref5_Value : ckFun Try.prog Try.f154 C.gantref5_Value R.gantref5_Value = true := by kernel_rfl
end Go.Proofs.Ytpdajkbfemcdlaa
namespace Go.Proofs.Ytpdajkbfemcdlaa
open Go.Ge
def C.msg_Check : ACode :=
  .seq (.region [⟨some 1, .bx true (.t 0), none⟩,⟨some 2, .move false (.c (.int .i64 0)), none⟩]) (
  .seq (.block 0 (.seq (.region [⟨some 4, .faddr 0 (.t 1), none⟩,⟨some 5, .load 2 false 1 (.t 4), none⟩,⟨some 6, .bin .lss (.t 5) (.c (.int .i64 0)), none⟩,.m 7 6,⟨some 8, .faddr 0 (.t 1), (some (7, false))⟩,⟨some 9, .load 2 false 1 (.t 8), (some (7, false))⟩,⟨some 10, .bin .gtr (.t 9) (.c (.int .i64 3)), (some (7, false))⟩,⟨some 11, .pick (.t 7) (.c (.bool true)) (.t 10), none⟩,.m 3 11]) (
  .cond (.t 3) (.seq (.region [⟨some 2, .move false (.c (.int .i64 1)), none⟩]) (
  .ret)) (.seq (.region [⟨some 13, .faddr 1 (.t 1), none⟩,⟨some 14, .load 2 false 1 (.t 13), none⟩,⟨some 15, .faddr 2 (.t 1), none⟩,⟨some 16, .load 2 false 1 (.t 15), none⟩,⟨some 17, .mn (.t 14) [(.t 16)], none⟩,⟨some 18, .bin .lss (.t 17) (.c (.int .i64 0)), none⟩,.m 19 18,⟨some 20, .faddr 1 (.t 1), (some (19, false))⟩,⟨some 21, .load 2 false 1 (.t 20), (some (19, false))⟩,⟨some 22, .faddr 2 (.t 1), (some (19, false))⟩,⟨some 23, .load 2 false 1 (.t 22), (some (19, false))⟩,⟨some 24, .mx (.t 21) [(.t 23)], (some (19, false))⟩,⟨some 25, .bin .gtr (.t 24) (.c (.int .i64 4)), (some (19, false))⟩,⟨some 26, .pick (.t 19) (.c (.bool true)) (.t 25), none⟩,.m 27 26,⟨some 28, .faddr 1 (.t 1), (some (27, false))⟩,⟨some 29, .load 2 false 1 (.t 28), (some (27, false))⟩,⟨some 30, .faddr 2 (.t 1), (some (27, false))⟩,⟨some 31, .load 2 false 1 (.t 30), (some (27, false))⟩,⟨some 32, .bin .eql (.t 29) (.t 31), (some (27, false))⟩,⟨some 33, .pick (.t 27) (.c (.bool true)) (.t 32), none⟩,.m 12 33]) (
  .cond (.t 12) (.seq (.region [⟨some 2, .move false (.c (.int .i64 16)), none⟩]) (
  .ret)) (.seq (.region [⟨some 35, .faddr 3 (.t 1), none⟩,⟨some 36, .load 2 false 1 (.t 35), none⟩,⟨some 37, .bin .lss (.t 36) (.c (.int .i64 0)), none⟩,.m 38 37,⟨some 39, .faddr 3 (.t 1), (some (38, false))⟩,⟨some 40, .load 2 false 1 (.t 39), (some (38, false))⟩,⟨some 41, .bin .gtr (.t 40) (.c (.int .i64 2147483647)), (some (38, false))⟩,⟨some 42, .pick (.t 38) (.c (.bool true)) (.t 41), none⟩,.m 34 42]) (
  .cond (.t 34) (.seq (.region [⟨some 2, .move false (.c (.int .i64 2)), none⟩]) (
  .ret)) (.seq (.region [⟨some 44, .faddr 0 (.t 1), none⟩,⟨some 45, .load 2 false 1 (.t 44), none⟩,⟨some 46, .bin .eql (.t 45) (.c (.int .i64 3)), none⟩,.m 47 46,⟨some 48, .faddr 5 (.t 1), (some (47, true))⟩,⟨some 49, .load 2 false 1 (.t 48), (some (47, true))⟩,⟨some 50, .len (.t 49), (some (47, true))⟩,⟨some 51, .bin .gtr (.t 50) (.c (.int .i64 0)), (some (47, true))⟩,⟨some 52, .pick (.t 47) (.t 51) (.c (.bool false)), none⟩,.m 43 52]) (
  .cond (.t 43) (.seq (.region [⟨some 2, .move false (.c (.int .i64 3)), none⟩]) (
  .ret)) (.skip)))))))))) (
  .seq (.region [⟨some 53, .faddr 5 (.t 1), none⟩,⟨some 54, .load 2 false 1 (.t 53), none⟩,⟨some 55, .call true F.grid_Check [(.t 54)], none⟩,.m 2 55]) (
  .ret)))
def R.msg_Check : List ARes := [.t 2]
set_option maxRecDepth 100000 in
theorem K.msg_Check : ckFun Try.prog Try.f74 C.msg_Check R.msg_Check = true := by kernel_rfl
def C.grid_Check : ACode :=
  .seq (.region [⟨some 2, .move false (.c (.int .i64 0)), none⟩]) (
  .seq (.seq (.region [.m 5 0,⟨some 6, .len (.t 5), none⟩,⟨some 7, .bin .gtr (.t 6) (.c (.int .i64 400)), none⟩]) (
  .cond (.t 7) (.seq (.region [⟨some 2, .move false (.c (.int .i64 2)), none⟩]) (
  .ret)) (.skip))) (
  .seq (.seq (.region [.m 8 0,⟨some 9, .len (.t 8), none⟩,⟨some 10, .move false (.c (.int .i64 0)), none⟩]) (
  .block 0 (.loop (.seq (.region [⟨some 11, .bin .lss (.t 10) (.t 9), none⟩]) (
  .seq (.cond (.t 11) (.skip) (.exit 0)) (
  .seq (.block 1 (.seq (.region [.m 12 10,⟨some 13, .iaddr 2 (.t 8) (.t 10), none⟩,⟨some 14, .load 2 true 2 (.t 13), none⟩,⟨some 4, .alloc false [(.int .i64 0), (.int .i64 0)], none⟩,.m 3 12,⟨none, .store 2 (.t 4) (.t 14), none⟩]) (
  .seq (.seq (.region [⟨some 15, .faddr 0 (.t 4), none⟩,⟨some 16, .load 2 false 1 (.t 15), none⟩,⟨some 17, .call true F.grid_on [(.t 16)], none⟩,⟨some 18, .un .not (.t 17), none⟩,.m 19 18,⟨some 20, .faddr 1 (.t 4), (some (19, false))⟩,⟨some 21, .load 2 false 1 (.t 20), (some (19, false))⟩,⟨some 22, .call true F.grid_on [(.t 21)], (some (19, false))⟩,⟨some 23, .un .not (.t 22), (some (19, false))⟩,⟨some 24, .pick (.t 19) (.c (.bool true)) (.t 23), none⟩]) (
  .cond (.t 24) (.seq (.region [⟨some 2, .move false (.c (.int .i64 17)), none⟩]) (
  .ret)) (.skip))) (
  .seq (.drawn [0, 1, 2, 3, 4, 5, 6, 7, 8, 9, 10, 11] [0, 1, 3, 7, 7, 23, 63, 127, 7, 511, 1023, 2047] [.m 25 3,⟨some 26, .bin .gtr (.t 25) (.c (.int .i64 0)), none⟩,.m 27 26,⟨some 28, .move false (.t 0), (some (27, true))⟩,⟨some 29, .move false (.t 3), (some (27, true))⟩,⟨some 30, .bin .sub (.t 29) (.c (.int .i64 1)), (some (27, true))⟩,⟨some 31, .iaddr 2 (.t 28) (.t 30), (some (27, true))⟩,⟨some 32, .load 0 true 2 (.t 31), (some (27, true))⟩,⟨some 33, .load 1 true 2 (.t 4), (some (27, true))⟩,⟨some 34, .call false F.grid_order [(.t 32), (.t 33)], (some (27, true))⟩,⟨some 35, .bin .geq (.t 34) (.c (.int .i64 0)), (some (27, true))⟩,⟨some 36, .pick (.t 27) (.t 35) (.c (.bool false)), none⟩]) (
  .cond (.t 36) (.seq (.region [⟨some 2, .move false (.c (.int .i64 9)), none⟩]) (
  .ret)) (.skip)))))) (
  .region [⟨some 37, .bin .add (.t 10) (.c (.int .i64 1)), none⟩,.m 10 37]))))))) (
  .seq (.region [⟨some 2, .move false (.c (.int .i64 0)), none⟩]) (
  .ret))))
def R.grid_Check : List ARes := [.t 2]
set_option maxRecDepth 100000 in
theorem K.grid_Check : ckFun Try.prog Try.f158 C.grid_Check R.grid_Check = true := by kernel_rfl
def C.grid_on : ACode :=
  .seq (.region [⟨some 2, .move false (.c (.bool false)), none⟩]) (
  .seq (.region [.m 3 0,⟨some 4, .bin .geq (.t 3) (.c (.int .i64 (-64))), none⟩,.m 5 4,⟨some 6, .move false (.t 0), (some (5, true))⟩,⟨some 7, .bin .lss (.t 6) (.c (.int .i64 64)), (some (5, true))⟩,⟨some 8, .pick (.t 5) (.t 7) (.c (.bool false)), none⟩,.m 2 8]) (
  .ret))
def R.grid_on : List ARes := [.t 2]
set_option maxRecDepth 100000 in
theorem K.grid_on : ckFun Try.prog Try.f197 C.grid_on R.grid_on = true := by kernel_rfl
def C.grid_order : ACode :=
  .seq (.region [⟨some 2, .bx false (.t 0), none⟩,⟨some 3, .bx false (.t 1), none⟩,⟨some 4, .move false (.c (.int .i64 0)), none⟩]) (
  .seq (.seq (.region [⟨some 6, .faddr 1 (.t 2), none⟩,⟨some 7, .load 2 false 1 (.t 6), none⟩,⟨some 8, .faddr 1 (.t 3), none⟩,⟨some 9, .load 2 false 1 (.t 8), none⟩,⟨some 10, .call true F.cmp_Compare_int [(.t 7), (.t 9)], none⟩,.m 5 10]) (
  .seq (.region [.m 11 5,⟨some 12, .bin .neq (.t 11) (.c (.int .i64 0)), none⟩]) (
  .cond (.t 12) (.seq (.region [.m 13 5,.m 4 13]) (
  .ret)) (.skip)))) (
  .seq (.region [⟨some 14, .faddr 0 (.t 2), none⟩,⟨some 15, .load 2 false 1 (.t 14), none⟩,⟨some 16, .faddr 0 (.t 3), none⟩,⟨some 17, .load 2 false 1 (.t 16), none⟩,⟨some 18, .call true F.cmp_Compare_int [(.t 15), (.t 17)], none⟩,.m 4 18]) (
  .ret)))
def R.grid_order : List ARes := [.t 4]
set_option maxRecDepth 100000 in
theorem K.grid_order : ckFun Try.prog Try.f198 C.grid_order R.grid_order = true := by kernel_rfl
def C.cmp_Compare_int : ACode :=
  .seq (.region [⟨some 4, .move false (.c (.int .i64 0)), none⟩]) (
  .seq (.region [.m 7 0,⟨some 8, .call true F.cmp_isNaN_int [(.t 7)], none⟩,.m 5 8]) (
  .seq (.region [.m 9 1,⟨some 10, .call true F.cmp_isNaN_int [(.t 9)], none⟩,.m 6 10]) (
  .seq (.seq (.region [.m 11 5]) (
  .cond (.t 11) (.seq (.seq (.region [.m 12 6]) (
  .cond (.t 12) (.seq (.region [⟨some 4, .move false (.c (.int .i64 0)), none⟩]) (
  .ret)) (.skip))) (
  .seq (.region [⟨some 4, .move false (.c (.int .i64 (-1))), none⟩]) (
  .ret))) (.skip))) (
  .seq (.seq (.region [.m 13 6]) (
  .cond (.t 13) (.seq (.region [⟨some 4, .move false (.c (.int .i64 1)), none⟩]) (
  .ret)) (.skip))) (
  .seq (.seq (.region [.m 14 0,.m 15 1,⟨some 16, .bin .lss (.t 14) (.t 15), none⟩]) (
  .cond (.t 16) (.seq (.region [⟨some 4, .move false (.c (.int .i64 (-1))), none⟩]) (
  .ret)) (.skip))) (
  .seq (.seq (.region [.m 17 0,.m 18 1,⟨some 19, .bin .gtr (.t 17) (.t 18), none⟩]) (
  .cond (.t 19) (.seq (.region [⟨some 4, .move false (.c (.int .i64 1)), none⟩]) (
  .ret)) (.skip))) (
  .seq (.region [⟨some 4, .move false (.c (.int .i64 0)), none⟩]) (
  .ret))))))))
def R.cmp_Compare_int : List ARes := [.t 4]
set_option maxRecDepth 100000 in
theorem K.cmp_Compare_int : ckFun Try.prog Try.f215 C.cmp_Compare_int R.cmp_Compare_int = true := by kernel_rfl
def C.cmp_isNaN_int : ACode :=
  .seq (.region [⟨some 2, .move false (.c (.bool false)), none⟩]) (
  .seq (.region [.m 3 0,.m 4 0,⟨some 5, .bin .neq (.t 3) (.t 4), none⟩,.m 2 5]) (
  .ret))
def R.cmp_isNaN_int : List ARes := [.t 2]
set_option maxRecDepth 100000 in
theorem K.cmp_isNaN_int : ckFun Try.prog Try.f230 C.cmp_isNaN_int R.cmp_isNaN_int = true := by kernel_rfl
def C.gantref5_MsgFault : ACode :=
  .seq (.region [⟨some 1, .bx true (.t 0), none⟩,⟨some 2, .move false (.c (.int .i64 0)), none⟩]) (
  .seq (.seq (.region [⟨some 3, .faddr 0 (.t 1), none⟩,⟨some 4, .load 2 false 1 (.t 3), none⟩,⟨some 5, .bin .lss (.t 4) (.c (.int .i64 0)), none⟩,.m 6 5,⟨some 7, .faddr 0 (.t 1), (some (6, false))⟩,⟨some 8, .load 2 false 1 (.t 7), (some (6, false))⟩,⟨some 9, .bin .gtr (.t 8) (.c (.int .i64 3)), (some (6, false))⟩,⟨some 10, .pick (.t 6) (.c (.bool true)) (.t 9), none⟩]) (
  .cond (.t 10) (.seq (.region [⟨some 2, .move false (.c (.int .i64 1)), none⟩]) (
  .ret)) (.skip))) (
  .seq (.seq (.region [⟨some 11, .faddr 1 (.t 1), none⟩,⟨some 12, .load 2 false 1 (.t 11), none⟩,⟨some 13, .bin .lss (.t 12) (.c (.int .i64 0)), none⟩,.m 14 13,⟨some 15, .faddr 1 (.t 1), (some (14, false))⟩,⟨some 16, .load 2 false 1 (.t 15), (some (14, false))⟩,⟨some 17, .bin .gtr (.t 16) (.c (.int .i64 4)), (some (14, false))⟩,⟨some 18, .pick (.t 14) (.c (.bool true)) (.t 17), none⟩,.m 19 18,⟨some 20, .faddr 2 (.t 1), (some (19, false))⟩,⟨some 21, .load 2 false 1 (.t 20), (some (19, false))⟩,⟨some 22, .bin .lss (.t 21) (.c (.int .i64 0)), (some (19, false))⟩,⟨some 23, .pick (.t 19) (.c (.bool true)) (.t 22), none⟩,.m 24 23,⟨some 25, .faddr 2 (.t 1), (some (24, false))⟩,⟨some 26, .load 2 false 1 (.t 25), (some (24, false))⟩,⟨some 27, .bin .gtr (.t 26) (.c (.int .i64 4)), (some (24, false))⟩,⟨some 28, .pick (.t 24) (.c (.bool true)) (.t 27), none⟩,.m 29 28,⟨some 30, .faddr 1 (.t 1), (some (29, false))⟩,⟨some 31, .load 2 false 1 (.t 30), (some (29, false))⟩,⟨some 32, .faddr 2 (.t 1), (some (29, false))⟩,⟨some 33, .load 2 false 1 (.t 32), (some (29, false))⟩,⟨some 34, .bin .eql (.t 31) (.t 33), (some (29, false))⟩,⟨some 35, .pick (.t 29) (.c (.bool true)) (.t 34), none⟩]) (
  .cond (.t 35) (.seq (.region [⟨some 2, .move false (.c (.int .i64 16)), none⟩]) (
  .ret)) (.skip))) (
  .seq (.seq (.region [⟨some 36, .faddr 3 (.t 1), none⟩,⟨some 37, .load 2 false 1 (.t 36), none⟩,⟨some 38, .bin .lss (.t 37) (.c (.int .i64 0)), none⟩,.m 39 38,⟨some 40, .faddr 3 (.t 1), (some (39, false))⟩,⟨some 41, .load 2 false 1 (.t 40), (some (39, false))⟩,⟨some 42, .bin .geq (.t 41) (.c (.int .i64 2147483648)), (some (39, false))⟩,⟨some 43, .pick (.t 39) (.c (.bool true)) (.t 42), none⟩]) (
  .cond (.t 43) (.seq (.region [⟨some 2, .move false (.c (.int .i64 2)), none⟩]) (
  .ret)) (.skip))) (
  .seq (.seq (.region [⟨some 44, .faddr 0 (.t 1), none⟩,⟨some 45, .load 2 false 1 (.t 44), none⟩,⟨some 46, .bin .eql (.t 45) (.c (.int .i64 3)), none⟩,.m 47 46,⟨some 48, .faddr 5 (.t 1), (some (47, true))⟩,⟨some 49, .load 2 false 1 (.t 48), (some (47, true))⟩,⟨some 50, .len (.t 49), (some (47, true))⟩,⟨some 51, .bin .neq (.t 50) (.c (.int .i64 0)), (some (47, true))⟩,⟨some 52, .pick (.t 47) (.t 51) (.c (.bool false)), none⟩]) (
  .cond (.t 52) (.seq (.region [⟨some 2, .move false (.c (.int .i64 3)), none⟩]) (
  .ret)) (.skip))) (
  .seq (.region [⟨some 2, .move false (.c (.int .i64 0)), none⟩]) (
  .ret))))))
def R.gantref5_MsgFault : List ARes := [.t 2]
set_option maxRecDepth 100000 in
theorem K.gantref5_MsgFault : ckFun Try.prog Try.f58 C.gantref5_MsgFault R.gantref5_MsgFault = true := by kernel_rfl
def C.gantref5_CellsFault : ACode :=
  .seq (.region [⟨some 2, .move false (.c (.int .i64 0)), none⟩]) (
  .seq (.seq (.region [.m 5 0,⟨some 6, .len (.t 5), none⟩,⟨some 7, .bin .gtr (.t 6) (.c (.int .i64 400)), none⟩]) (
  .cond (.t 7) (.seq (.region [⟨some 2, .move false (.c (.int .i64 2)), none⟩]) (
  .ret)) (.skip))) (
  .seq (.seq (.region [.m 8 0,⟨some 9, .len (.t 8), none⟩,⟨some 10, .move false (.c (.int .i64 0)), none⟩]) (
  .block 0 (.loop (.seq (.region [⟨some 11, .bin .lss (.t 10) (.t 9), none⟩]) (
  .seq (.cond (.t 11) (.skip) (.exit 0)) (
  .seq (.block 1 (.seq (.region [.m 12 10,⟨some 13, .iaddr 2 (.t 8) (.t 10), none⟩,⟨some 14, .load 2 true 2 (.t 13), none⟩,⟨some 4, .alloc false [(.int .i64 0), (.int .i64 0)], none⟩,.m 3 12,⟨none, .store 2 (.t 4) (.t 14), none⟩]) (
  .seq (.seq (.region [⟨some 15, .faddr 0 (.t 4), none⟩,⟨some 16, .load 2 false 1 (.t 15), none⟩,⟨some 17, .bin .lss (.t 16) (.c (.int .i64 (-64))), none⟩,.m 18 17,⟨some 19, .faddr 0 (.t 4), (some (18, false))⟩,⟨some 20, .load 2 false 1 (.t 19), (some (18, false))⟩,⟨some 21, .bin .gtr (.t 20) (.c (.int .i64 63)), (some (18, false))⟩,⟨some 22, .pick (.t 18) (.c (.bool true)) (.t 21), none⟩,.m 23 22,⟨some 24, .faddr 1 (.t 4), (some (23, false))⟩,⟨some 25, .load 2 false 1 (.t 24), (some (23, false))⟩,⟨some 26, .bin .lss (.t 25) (.c (.int .i64 (-64))), (some (23, false))⟩,⟨some 27, .pick (.t 23) (.c (.bool true)) (.t 26), none⟩,.m 28 27,⟨some 29, .faddr 1 (.t 4), (some (28, false))⟩,⟨some 30, .load 2 false 1 (.t 29), (some (28, false))⟩,⟨some 31, .bin .gtr (.t 30) (.c (.int .i64 63)), (some (28, false))⟩,⟨some 32, .pick (.t 28) (.c (.bool true)) (.t 31), none⟩]) (
  .cond (.t 32) (.seq (.region [⟨some 2, .move false (.c (.int .i64 17)), none⟩]) (
  .ret)) (.skip))) (
  .seq (.drawn [0, 1, 2, 3, 4, 5, 6, 7, 8, 9, 10, 11, 12, 13, 14, 15, 16, 17, 18, 19, 20, 21, 22, 23, 24, 25, 26, 27, 28, 29, 30, 31, 32, 33, 34] [0, 1, 3, 7, 7, 23, 63, 127, 255, 7, 519, 2047, 4095, 8191, 8191, 24575, 65535, 131071, 262143, 8191, 532479, 2097151, 4194303, 8388607, 8388607, 25165823, 67108863, 134217727, 268435455, 8388607, 545259519, 2147483647, 4294967295, 8589934591, 17179869183] [.m 33 3,⟨some 34, .bin .gtr (.t 33) (.c (.int .i64 0)), none⟩,.m 35 34,⟨some 36, .move false (.t 0), (some (35, true))⟩,⟨some 37, .move false (.t 3), (some (35, true))⟩,⟨some 38, .bin .sub (.t 37) (.c (.int .i64 1)), (some (35, true))⟩,⟨some 39, .iaddr 2 (.t 36) (.t 38), (some (35, true))⟩,⟨some 40, .faddr 1 (.t 39), (some (35, true))⟩,⟨some 41, .load 0 false 1 (.t 40), (some (35, true))⟩,⟨some 42, .faddr 1 (.t 4), (some (35, true))⟩,⟨some 43, .load 1 false 1 (.t 42), (some (35, true))⟩,⟨some 44, .bin .gtr (.t 41) (.t 43), (some (35, true))⟩,⟨some 45, .move false (.t 44), (some (35, true))⟩,⟨some 46, .move false (.t 0), (some (45, false))⟩,⟨some 47, .move false (.t 3), (some (45, false))⟩,⟨some 48, .bin .sub (.t 47) (.c (.int .i64 1)), (some (45, false))⟩,⟨some 49, .iaddr 2 (.t 46) (.t 48), (some (45, false))⟩,⟨some 50, .faddr 1 (.t 49), (some (45, false))⟩,⟨some 51, .load 0 false 1 (.t 50), (some (45, false))⟩,⟨some 52, .faddr 1 (.t 4), (some (45, false))⟩,⟨some 53, .load 1 false 1 (.t 52), (some (45, false))⟩,⟨some 54, .bin .eql (.t 51) (.t 53), (some (45, false))⟩,⟨some 55, .move false (.t 54), (some (45, false))⟩,⟨some 56, .move false (.t 0), (some (55, true))⟩,⟨some 57, .move false (.t 3), (some (55, true))⟩,⟨some 58, .bin .sub (.t 57) (.c (.int .i64 1)), (some (55, true))⟩,⟨some 59, .iaddr 2 (.t 56) (.t 58), (some (55, true))⟩,⟨some 60, .faddr 0 (.t 59), (some (55, true))⟩,⟨some 61, .load 0 false 1 (.t 60), (some (55, true))⟩,⟨some 62, .faddr 0 (.t 4), (some (55, true))⟩,⟨some 63, .load 1 false 1 (.t 62), (some (55, true))⟩,⟨some 64, .bin .geq (.t 61) (.t 63), (some (55, true))⟩,⟨some 65, .pick (.t 55) (.t 64) (.c (.bool false)), (some (45, false))⟩,⟨some 66, .pick (.t 45) (.c (.bool true)) (.t 65), (some (35, true))⟩,⟨some 67, .pick (.t 35) (.t 66) (.c (.bool false)), none⟩]) (
  .cond (.t 67) (.seq (.region [⟨some 2, .move false (.c (.int .i64 9)), none⟩]) (
  .ret)) (.skip)))))) (
  .region [⟨some 68, .bin .add (.t 10) (.c (.int .i64 1)), none⟩,.m 10 68]))))))) (
  .seq (.region [⟨some 2, .move false (.c (.int .i64 0)), none⟩]) (
  .ret))))
def R.gantref5_CellsFault : List ARes := [.t 2]
set_option maxRecDepth 100000 in
theorem K.gantref5_CellsFault : ckFun Try.prog Try.f59 C.gantref5_CellsFault R.gantref5_CellsFault = true := by kernel_rfl
end Go.Proofs.Ytpdajkbfemcdlaa
set_option linter.unusedSimpArgs false
set_option linter.unusedVariables false
set_option maxRecDepth 10000
namespace Go.Proofs.Ytpdajkbfemcdlaa
open Go.Ge
def cmpI (a b : Int) : Int := if a < b then -1 else if a > b then 1 else 0
def orderC (a b : Cell) : Int := if cmpI a.Y b.Y ≠ 0 then cmpI a.Y b.Y else cmpI a.X b.X
def cellLt (a b : Cell) : Prop := a.Y < b.Y ∨ a.Y = b.Y ∧ a.X < b.X
instance (a b : Cell) : Decidable (cellLt a b) := by unfold cellLt; exact inferInstance
theorem orderC_lt (a b : Cell) : orderC a b ≥ 0 ↔ ¬cellLt a b := by
  unfold orderC cmpI cellLt
  split <;> (repeat split) <;> (repeat split at *) <;> omega
theorem orderC_zero (a b : Cell) : orderC a b = 0 ↔ a = b := by
  cases a; cases b
  unfold orderC cmpI
  simp only [Cell.mk.injEq]
  split <;> (repeat split at *) <;> (repeat split) <;> omega
def onG (n : Int) : Prop := -64 ≤ n ∧ n < 64
instance (n : Int) : Decidable (onG n) := by unfold onG; exact inferInstance
def cellsF : Option Cell → List Cell → Int
  | _, [] => 0
  | p, c :: r => if ¬onG c.X ∨ ¬onG c.Y then 17 else if (∃ q ∈ p, ¬cellLt q c) then 9 else cellsF (some c) r
def cellsFault (l : List Cell) : Int := if l.length > 400 then 2 else cellsF none l
def prevC (l : List Cell) (i : Nat) : Option Cell := if i = 0 then none else l[i - 1]?
theorem cellsF_step {l : List Cell} {i : Nat} (h : i < l.length) : cellsF (prevC l i) (l.drop i) = if ¬onG l[i].X ∨ ¬onG l[i].Y then 17 else if (∃ q ∈ prevC l i, ¬cellLt q l[i]) then 9 else cellsF (prevC l (i + 1)) (l.drop (i + 1)) := by
  rw [List.drop_eq_getElem_cons h, cellsF]
  have : prevC l (i + 1) = some l[i] := by unfold prevC; simp [h]
  rw [this]
def msgFault (m : Msg) : Int :=
  if m.Kind < 0 ∨ m.Kind > 3 then 1 else if m.From < 0 ∨ m.From > 4 ∨ m.To < 0 ∨ m.To > 4 ∨ m.From = m.To then 16
  else if m.Seq < 0 ∨ m.Seq > 2147483647 then 2 else if m.Kind = 3 ∧ m.Cells.length ≠ 0 then 3 else 0
def checkF (m : Msg) : Int := if msgFault m ≠ 0 then msgFault m else cellsFault m.Cells
theorem isNaN_ok (a : Int) (h : List HObj) : ACalls Try.prog F.cmp_isNaN_int [.int .i64 a] h (fun r h' => r = .bool false ∧ h' = h) := by
  refine ACalls.of_aw Try.func230 K.cmp_isNaN_int (by simp [Try.f230]) ?_
  generalize hQ : retQ R.cmp_isNaN_int _ = Q
  simp (disch := first | assumption | omega) only [C.cmp_isNaN_int, go_sem, ↓reduceIte, Nat.reduceEqDiff, reduceCtorEq, reduceIte, decide_false, not_true_eq_false, Bool.true_and, int_bne]
  subst hQ
  simp (disch := first | assumption | omega) only [R.cmp_isNaN_int, go_sem, ↓reduceIte, reduceIte]
theorem Compare_ok (a b : Int) (h : List HObj) : ACalls Try.prog F.cmp_Compare_int [.int .i64 a, .int .i64 b] h (fun r h' => r = .int .i64 (cmpI a b) ∧ h' = h) := by
  refine ACalls.of_aw Try.func215 K.cmp_Compare_int (by simp [Try.f215]) ?_
  generalize hQ : retQ R.cmp_Compare_int _ = Q
  simp (disch := first | assumption | omega) only [C.cmp_Compare_int, go_sem, ↓reduceIte, reduceCtorEq, reduceIte, Int.reduceNeg, Bool.true_and]
  refine callG_ok (isNaN_ok a _) (by simp (disch := first | assumption | omega) only [go_sem]) ?_
  rintro _ _ ⟨rfl, hhh⟩
  try rw [hhh]
  clear hhh
  simp (disch := first | assumption | omega) only [go_sem, ↓reduceIte, Nat.reduceEqDiff, reduceIte, Int.reduceNeg, Bool.true_and]
  refine callG_ok (isNaN_ok b _) (by simp (disch := first | assumption | omega) only [go_sem]) ?_
  rintro _ _ ⟨rfl, hhh⟩
  try rw [hhh]
  clear hhh
  simp (disch := first | assumption | omega) only [go_sem, ↓reduceIte, Nat.reduceEqDiff, reduceCtorEq, reduceIte, Int.reduceNeg, Bool.true_and]
  refine condG_if (fun hlt => ?_) fun hge => ?_
  · simp (disch := first | assumption | omega) only [go_sem, Int.reduceNeg, Bool.true_and]
    subst hQ
    simp (disch := first | assumption | omega) only [R.cmp_Compare_int, go_sem, ↓reduceIte, reduceIte, Int.reduceNeg, Bool.true_and]
    rw [cmpI, if_pos hlt]
  · simp (disch := first | assumption | omega) only [go_sem, ↓reduceIte, Nat.reduceEqDiff, reduceCtorEq, reduceIte, Bool.true_and]
    refine condG_if (fun hlt2 => ?_) fun hge2 => ?_
    · simp (disch := first | assumption | omega) only [go_sem, Bool.true_and]
      subst hQ
      simp (disch := first | assumption | omega) only [R.cmp_Compare_int, go_sem, ↓reduceIte, reduceIte, Bool.true_and]
      rw [cmpI, if_neg hge, if_pos hlt2]
    · simp (disch := first | assumption | omega) only [go_sem, Bool.true_and]
      subst hQ
      simp (disch := first | assumption | omega) only [R.cmp_Compare_int, go_sem, ↓reduceIte, reduceIte, Bool.true_and]
      rw [cmpI, if_neg hge, if_neg hge2]
theorem order_ok (a b : Cell) (h : List HObj) : ACalls Try.prog F.grid_order [cellA a, cellA b] h (fun r h' => r = .int .i64 (orderC a b) ∧ h' = h) := by
  refine ACalls.of_aw Try.func198 K.grid_order (by simp [Try.f198]) ?_
  generalize hQ : retQ R.grid_order _ = Q
  simp (disch := first | assumption | omega) only [C.grid_order, go_sem, ↓reduceIte, Nat.reduceEqDiff, Nat.reduceLeDiff, reduceIte, Bool.true_and]
  simp (disch := first | assumption | omega) only [cellA, go_sem, ↓reduceIte, Nat.reduceEqDiff, Nat.reduceAdd, Nat.reduceLT, reduceIte, Int.reduceLT, Int.reduceAdd, Bool.true_and]
  refine callG_ok (Compare_ok a.Y b.Y _) (by simp (disch := first | assumption | omega) only [go_sem]) ?_
  rintro _ _ ⟨rfl, hhh⟩
  try rw [hhh]
  clear hhh
  simp (disch := first | assumption | omega) only [go_sem, ↓reduceIte, reduceIte, Bool.true_and, int_bne]
  refine condG_ifn (fun hb => ?_) fun hb => ?_
  · simp (disch := first | assumption | omega) only [go_sem, ↓reduceIte, Nat.reduceEqDiff, reduceIte, Bool.true_and]
    subst hQ
    simp (disch := first | assumption | omega) only [R.grid_order, go_sem, ↓reduceIte, reduceIte, Bool.true_and]
    rw [orderC, if_pos hb]
  · simp (disch := first | assumption | omega) only [go_sem, ↓reduceIte, Nat.reduceEqDiff, Nat.reduceAdd, Nat.reduceLeDiff, reduceIte, Int.reduceAdd, Bool.true_and]
    refine callG_ok (Compare_ok a.X b.X _) (by simp (disch := first | assumption | omega) only [go_sem]) ?_
    rintro _ _ ⟨rfl, hhh⟩
    try rw [hhh]
    clear hhh
    simp (disch := first | assumption | omega) only [go_sem, ↓reduceIte, reduceIte, Bool.true_and]
    subst hQ
    simp (disch := first | assumption | omega) only [R.grid_order, go_sem, ↓reduceIte, reduceIte, Bool.true_and]
    rw [orderC, if_neg (by simp [hb])]
theorem on_ok (n : Int) (h : List HObj) : ACalls Try.prog F.grid_on [.int .i64 n] h (fun r h' => r = .bool (decide (onG n)) ∧ h' = h) := by
  refine ACalls.of_aw Try.func197 K.grid_on (by simp [Try.f197]) ?_
  generalize hQ : retQ R.grid_on _ = Q
  simp (disch := first | assumption | omega) only [C.grid_on, go_sem, ↓reduceIte, reduceCtorEq, reduceIte, Int.reduceNeg, Bool.true_and]
  refine aopsG_if (fun h1 => ?_) fun h1 => ?_
  · simp (disch := first | assumption | omega) only [h1, go_sem, ↓reduceIte, Nat.reduceEqDiff, reduceCtorEq, reduceIte, cond_true, Int.reduceNeg, decide_true, Bool.true_and]
    subst hQ
    simp (disch := first | assumption | omega) only [R.grid_on, go_sem, ↓reduceIte, reduceIte, Bool.true_and]
    have : decide (n < 64) = decide (onG n) := by
      unfold onG; by_cases h2 : n < 64 <;> simp [h1, h2]
    rw [this]
  · simp (disch := first | assumption | omega) only [h1, go_sem, ↓reduceIte, Nat.reduceEqDiff, reduceIte, cond_false, Int.reduceNeg, decide_false, Bool.true_and]
    subst hQ
    simp (disch := first | assumption | omega) only [R.grid_on, go_sem, ↓reduceIte, reduceIte, Bool.true_and]
    have : ¬ onG n := by unfold onG; omega
    simp [this]
theorem gridCheck_ok (o : Own) (l : List Cell) (ho : Rdo o) (hl : l.length < 4611686018427387904) (h : List HObj) : ACalls Try.prog F.grid_Check [.lst o (cellsA l)] h (fun r h' => r = .int .i64 (cellsFault l) ∧ h' = h) := by
  refine ACalls.of_aw Try.func158 K.grid_Check (by simp [Try.f158]) ?_
  generalize hQ : retQ R.grid_Check _ = Q
  simp (disch := first | assumption | omega) only [C.grid_Check, go_sem, ↓reduceIte, reduceCtorEq, reduceIte, Bool.true_and]
  refine condG_if (fun h4 => ?_) fun h4 => ?_
  · simp (disch := first | assumption | omega) only [go_sem, Bool.true_and]
    subst hQ
    simp (disch := first | assumption | omega) only [R.grid_Check, go_sem, ↓reduceIte, reduceIte, Bool.true_and]
    rw [cellsFault, if_pos (by omega)]
  · have h5 : ¬ l.length > 400 := by omega
    simp (disch := first | assumption | omega) only [go_sem, ↓reduceIte, reduceCtorEq, reduceIte, Bool.true_and]
    refine aw_count (fun d S => ∃ (i : Nat), i + d = l.length ∧ S.env 10 = .int .i64 i ∧ S.env 9 = .int .i64 l.length ∧ S.env 8 = .lst o (cellsA l) ∧ S.env 0 = .lst o (cellsA l) ∧ cellsF none l = cellsF (prevC l i) (l.drop i) ∧ S.heap = h) (n := l.length) ⟨0, by simp [go_sem, prevC]⟩ ?_
    rintro d S ⟨i, hi, e10, e9, e8, e0, hf, eh⟩
    simp (disch := first | assumption | omega) only [e10, e9, go_sem, ↓reduceIte, reduceIte, Int.ofNat_lt, Bool.true_and]
    refine condG_if (fun hlt => ?_) fun hge => ?_
    · have hlt : i < l.length := by omega
      have hat := at_cells hlt
      rw [cellsF_step hlt] at hf
      simp (disch := first | assumption | omega) only [e10, e8, hat, cellA, hlt, go_sem, ↓reduceIte, Nat.reduceEqDiff, Nat.reduceAdd, Nat.reduceLeDiff, reduceIte, Int.natCast_nonneg, Int.ofNat_lt, Int.reduceAdd, decide_true, Bool.true_and]
      by_cases hx : onG l[i].X
      · refine callG_ok (on_ok l[i].X _) (by simp (disch := first | assumption | omega) only [go_sem]) ?_
        rintro _ _ ⟨rfl, hhh⟩
        try rw [hhh]
        clear hhh
        simp (disch := first | assumption | omega) only [hx, go_sem, ↓reduceIte, Nat.reduceEqDiff, Nat.reduceAdd, Nat.reduceLeDiff, Nat.reduceLT, reduceIte, Int.reduceLT, Int.reduceAdd, decide_true, Bool.true_and]
        by_cases hy : onG l[i].Y
        · refine callG_ok (on_ok l[i].Y _) (by simp (disch := first | assumption | omega) only [go_sem]) ?_
          rintro _ _ ⟨rfl, hhh⟩
          try rw [hhh]
          clear hhh
          simp (disch := first | assumption | omega) only [hy, go_sem, ↓reduceIte, Nat.reduceEqDiff, reduceIte, cond_false, decide_true, Bool.true_and, alS]
          rw [if_neg (by simp [hx, hy])] at hf
          refine aopsG_if (fun h0 => ?_) fun h0 => ?_
          · have hi0 := h0
            have h0 : 0 < i := by omega
            have hat2 := at_cells (l := l) (i := i - 1) (by omega)
            have ei : ((i - 1 : Nat) : Int) = (i : Int) - 1 := by omega
            rw [ei] at hat2
            have hp : prevC l i = some l[i - 1] := by unfold prevC; rw [if_neg (by omega), List.getElem?_eq_getElem (by omega)]
            have hlt2 : i - 1 < l.length := by omega
            simp (disch := first | assumption | omega) only [e0, hat2, hi0, cellA, go_sem, ↓reduceIte, Nat.reduceEqDiff, reduceCtorEq, Nat.reduceAdd, Nat.reduceLeDiff, reduceIte, Int.reduceAdd, decide_true, Bool.true_and]
            refine ⟨⟨by omega, by omega⟩, ?_⟩
            refine callG_ok (order_ok l[i - 1] l[i] _) (by simp (disch := first | assumption | omega) only [go_sem]) ?_
            rintro _ _ ⟨rfl, hhh⟩
            try rw [hhh]
            clear hhh
            simp (disch := first | assumption | omega) only [go_sem, ↓reduceIte, Nat.reduceEqDiff, reduceIte, cond_true, Bool.true_and]
            refine condG_if (fun hc => ?_) fun hc => ?_
            · simp (disch := first | assumption | omega) only [go_sem, Bool.true_and]
              subst hQ
              simp (disch := first | assumption | omega) only [R.grid_Check, go_sem, ↓reduceIte, reduceIte, Bool.true_and]
              rw [cellsFault, if_neg h5, hf, hp, if_pos ⟨_, rfl, (orderC_lt _ _).1 hc⟩]
              exact ⟨rfl, eh⟩
            · simp (disch := first | assumption | omega) only [e10, e9, e8, e0, eh, go_sem, ↓reduceIte, Nat.reduceEqDiff, reduceCtorEq, reduceIte, Bool.true_and]
              rw [hp, if_neg (by rintro ⟨q, hq, hq2⟩; cases hq; exact hc ((orderC_lt _ _).2 hq2))] at hf
              exact ⟨d - 1, by omega, i + 1, by omega, by simp, hf⟩
          · have hp : prevC l i = none := by unfold prevC; rw [if_pos (by omega)]
            rw [hp, if_neg (by simp)] at hf
            simp (disch := first | assumption | omega) only [e10, e9, e8, e0, eh, h0, go_sem, ↓reduceIte, Nat.reduceEqDiff, reduceCtorEq, reduceIte, cond_false, decide_false, Bool.true_and]
            exact ⟨d - 1, by omega, i + 1, by omega, by simp, hf⟩
        · refine callG_ok (on_ok l[i].Y _) (by simp (disch := first | assumption | omega) only [go_sem]) ?_
          rintro _ _ ⟨rfl, hhh⟩
          try rw [hhh]
          clear hhh
          simp (disch := first | assumption | omega) only [hy, go_sem, ↓reduceIte, Nat.reduceEqDiff, reduceIte, cond_false, decide_false, Bool.true_and]
          subst hQ
          simp (disch := first | assumption | omega) only [R.grid_Check, go_sem, ↓reduceIte, reduceIte, Bool.true_and]
          rw [cellsFault, if_neg h5, hf, if_pos (.inr hy)]
          exact ⟨rfl, eh⟩
      · refine callG_ok (on_ok l[i].X _) (by simp (disch := first | assumption | omega) only [go_sem]) ?_
        rintro _ _ ⟨rfl, hhh⟩
        try rw [hhh]
        clear hhh
        simp (disch := first | assumption | omega) only [hx, go_sem, ↓reduceIte, Nat.reduceEqDiff, reduceIte, cond_true, decide_false, Bool.true_and]
        subst hQ
        simp (disch := first | assumption | omega) only [R.grid_Check, go_sem, ↓reduceIte, reduceIte, Bool.true_and]
        rw [cellsFault, if_neg h5, hf, if_pos (.inl hx)]
        exact ⟨rfl, eh⟩
    · obtain rfl : i = l.length := by omega
      rw [List.drop_length, cellsF] at hf
      simp (disch := first | assumption | omega) only [go_sem, ↓reduceIte, reduceIte, Bool.true_and]
      subst hQ
      simp (disch := first | assumption | omega) only [R.grid_Check, go_sem, ↓reduceIte, reduceIte, Bool.true_and]
      rw [cellsFault, if_neg h5, hf]
      exact ⟨rfl, eh⟩
theorem MsgFault_ok (o : Own) (m : Msg) (ho : Rdo o) (hl : m.Cells.length < 4611686018427387904) (h : List HObj) : ACalls Try.prog F.gantref5_MsgFault [msgA o m] h (fun r h' => r = .int .i64 (msgFault m) ∧ h' = h) := by
  refine ACalls.of_aw Try.func58 K.gantref5_MsgFault (by simp [Try.f58]) ?_
  generalize hQ : retQ R.gantref5_MsgFault _ = Q
  simp (disch := first | assumption | omega) only [C.gantref5_MsgFault, go_sem, ↓reduceIte, Nat.reduceEqDiff, Nat.reduceLeDiff, reduceIte, Bool.true_and]
  simp (disch := first | assumption | omega) only [msgA, msgC, go_sem, Nat.reduceAdd, Int.reduceAdd, Bool.true_and]
  iterate 16 (all_goals (try ((first | refine aopsG_ifn (fun hb => ?_) (fun hb => ?_) | refine condG_ifn (fun hb => ?_) (fun hb => ?_) | refine aopsG_if (fun hb => ?_) (fun hb => ?_) | refine condG_if (fun hb => ?_) (fun hb => ?_) | refine aopsG_split (fun hb => ?_) (fun hb => ?_) | refine condG_split (fun hb => ?_) (fun hb => ?_)) <;> simp (disch := first | assumption | omega) only [hb, go_sem, ↓reduceIte, Nat.reduceEqDiff, Nat.reduceAdd, Nat.reduceLeDiff, Nat.reduceLT, reduceIte, cond_true, cond_false, Int.reduceLT, Int.reduceAdd, decide_true, decide_false, not_true_eq_false, not_false_eq_true, Bool.true_and, int_beq, int_bne])))
  all_goals (try omega)
  all_goals (subst hQ; simp (disch := first | assumption | omega) only [R.gantref5_MsgFault, go_sem, ↓reduceIte, reduceIte, Bool.true_and]; refine congrArg (AVal.int .i64) ?_; unfold msgFault; (repeat split) <;> omega)
theorem CellsFault_ok (o : Own) (l : List Cell) (ho : Rdo o) (hl : l.length < 4611686018427387904) (h : List HObj) : ACalls Try.prog F.gantref5_CellsFault [.lst o (cellsA l)] h (fun r h' => r = .int .i64 (cellsFault l) ∧ h' = h) := by
  refine ACalls.of_aw Try.func59 K.gantref5_CellsFault (by simp [Try.f59]) ?_
  generalize hQ : retQ R.gantref5_CellsFault _ = Q
  simp (disch := first | assumption | omega) only [C.gantref5_CellsFault, go_sem, ↓reduceIte, reduceCtorEq, reduceIte, Int.reduceNeg, Bool.true_and]
  refine condG_if (fun h4 => ?_) fun h4 => ?_
  · simp (disch := first | assumption | omega) only [go_sem, Int.reduceNeg, Bool.true_and]
    subst hQ
    simp (disch := first | assumption | omega) only [R.gantref5_CellsFault, go_sem, ↓reduceIte, reduceIte, Bool.true_and]
    rw [cellsFault, if_pos (by omega)]
  · have h5 : ¬ l.length > 400 := by omega
    simp (disch := first | assumption | omega) only [go_sem, ↓reduceIte, reduceCtorEq, reduceIte, Int.reduceNeg, Bool.true_and]
    refine aw_count (fun d S => ∃ (i : Nat), i + d = l.length ∧ S.env 10 = .int .i64 i ∧ S.env 9 = .int .i64 l.length ∧ S.env 8 = .lst o (cellsA l) ∧ S.env 0 = .lst o (cellsA l) ∧ cellsF none l = cellsF (prevC l i) (l.drop i) ∧ S.heap = h) (n := l.length) ⟨0, by simp [go_sem, prevC]⟩ ?_
    rintro d S ⟨i, hi, e10, e9, e8, e0, hf, eh⟩
    simp (disch := first | assumption | omega) only [e10, e9, go_sem, ↓reduceIte, reduceIte, Int.ofNat_lt, Int.reduceNeg, Bool.true_and]
    refine condG_if (fun hlt => ?_) fun hge => ?_
    · have hlt : i < l.length := by omega
      have hat := at_cells hlt
      rw [cellsF_step hlt] at hf
      simp (disch := first | assumption | omega) only [e10, e8, hat, cellA, hlt, go_sem, ↓reduceIte, Nat.reduceEqDiff, Nat.reduceAdd, Nat.reduceLeDiff, reduceIte, Int.natCast_nonneg, Int.ofNat_lt, Int.reduceAdd, Int.reduceNeg, decide_true, Bool.true_and]
      by_cases hx : onG l[i].X
      · by_cases hy : onG l[i].Y
        · rw [if_neg (by simp [hx, hy])] at hf
          have q1 : ¬ l[i].X < -64 := by unfold onG at hx; omega
          have q2 : ¬ 63 < l[i].X := by unfold onG at hx; omega
          have q3 : ¬ l[i].Y < -64 := by unfold onG at hy; omega
          have q4 : ¬ 63 < l[i].Y := by unfold onG at hy; omega
          simp (disch := first | assumption | omega) only [q1, q2, q3, q4, go_sem, ↓reduceIte, Nat.reduceEqDiff, Nat.reduceAdd, Nat.reduceLeDiff, Nat.reduceLT, reduceIte, cond_false, Int.reduceLT, Int.reduceAdd, Int.reduceNeg, decide_false, Bool.true_and, alS]
          refine aopsG_if (fun h0 => ?_) fun h0 => ?_
          · have hi0 := h0
            have h0 : 0 < i := by omega
            have hat2 := at_cells (l := l) (i := i - 1) (by omega)
            have ei : ((i - 1 : Nat) : Int) = (i : Int) - 1 := by omega
            rw [ei] at hat2
            have hp : prevC l i = some l[i - 1] := by unfold prevC; rw [if_neg (by omega), List.getElem?_eq_getElem (by omega)]
            have hlt2 : i - 1 < l.length := by omega
            rw [hp] at hf
            have hx1 : (0 : Int) ≤ (i : Int) - 1 := by omega
            have hx2 : (i : Int) - 1 < l.length := by omega
            simp (disch := first | assumption | omega) only [e0, hat2, hi0, cellA, hx1, hx2, go_sem, ↓reduceIte, Nat.reduceEqDiff, reduceCtorEq, Nat.reduceAdd, Nat.reduceLeDiff, Nat.reduceLT, reduceIte, Int.reduceLT, Int.reduceAdd, decide_true, Bool.true_and]
            iterate 3 (all_goals (try ((first | refine aopsG_ifn (fun hb => ?_) (fun hb => ?_) | refine condG_ifn (fun hb => ?_) (fun hb => ?_) | refine aopsG_if (fun hb => ?_) (fun hb => ?_) | refine condG_if (fun hb => ?_) (fun hb => ?_) | refine aopsG_split (fun hb => ?_) (fun hb => ?_) | refine condG_split (fun hb => ?_) (fun hb => ?_)) <;> simp (disch := first | assumption | omega) only [hb, e10, e9, e8, e0, eh, hat2, cellA, hx1, hx2, go_sem, ↓reduceIte, Nat.reduceEqDiff, reduceCtorEq, Nat.reduceAdd, Nat.reduceLeDiff, Nat.reduceLT, reduceIte, cond_true, cond_false, Int.reduceLT, Int.reduceAdd, decide_true, decide_false, Bool.true_and, int_beq])))
            all_goals first
              | (rw [if_neg (by rintro ⟨q, hq, hq2⟩; cases hq; exact hq2 (by unfold cellLt; omega))] at hf
                 exact ⟨d - 1, by omega, i + 1, by omega, by simp, hf⟩)
              | (rw [if_pos ⟨_, rfl, by unfold cellLt; omega⟩] at hf
                 subst hQ
                 simp (disch := first | assumption | omega) only [R.gantref5_CellsFault, eh, go_sem, ↓reduceIte, reduceIte, Bool.true_and]
                 rw [cellsFault, if_neg h5, hf])
          · have hp : prevC l i = none := by unfold prevC; rw [if_pos (by omega)]
            rw [hp, if_neg (by simp)] at hf
            simp (disch := first | assumption | omega) only [e10, e9, e8, e0, eh, h0, go_sem, ↓reduceIte, Nat.reduceEqDiff, reduceCtorEq, reduceIte, cond_false, decide_false, Bool.true_and]
            exact ⟨d - 1, by omega, i + 1, by omega, by simp, hf⟩
        · have q : l[i].Y < -64 ∨ 63 < l[i].Y := by unfold onG at hy; omega
          rw [if_pos (.inr hy)] at hf
          iterate 4 (all_goals (try ((first | refine aopsG_ifn (fun hb => ?_) (fun hb => ?_) | refine condG_ifn (fun hb => ?_) (fun hb => ?_) | refine aopsG_if (fun hb => ?_) (fun hb => ?_) | refine condG_if (fun hb => ?_) (fun hb => ?_) | refine aopsG_split (fun hb => ?_) (fun hb => ?_) | refine condG_split (fun hb => ?_) (fun hb => ?_)) <;> simp (disch := first | assumption | omega) only [hb, go_sem, ↓reduceIte, Nat.reduceEqDiff, Nat.reduceAdd, Nat.reduceLeDiff, Nat.reduceLT, reduceIte, cond_true, cond_false, Int.reduceLT, Int.reduceAdd, Int.reduceNeg, decide_true, decide_false, Bool.true_and, alS])))
          all_goals (subst hQ; simp (disch := first | assumption | omega) only [R.gantref5_CellsFault, go_sem, ↓reduceIte, reduceIte, Bool.true_and]; first | omega | (rw [cellsFault, if_neg h5, hf]; exact ⟨rfl, eh⟩))
      · have q : l[i].X < -64 ∨ 63 < l[i].X := by unfold onG at hx; omega
        rw [if_pos (.inl hx)] at hf
        iterate 4 (all_goals (try ((first | refine aopsG_ifn (fun hb => ?_) (fun hb => ?_) | refine condG_ifn (fun hb => ?_) (fun hb => ?_) | refine aopsG_if (fun hb => ?_) (fun hb => ?_) | refine condG_if (fun hb => ?_) (fun hb => ?_) | refine aopsG_split (fun hb => ?_) (fun hb => ?_) | refine condG_split (fun hb => ?_) (fun hb => ?_)) <;> simp (disch := first | assumption | omega) only [hb, go_sem, ↓reduceIte, Nat.reduceEqDiff, Nat.reduceAdd, Nat.reduceLeDiff, reduceIte, cond_true, cond_false, Int.reduceAdd, Int.reduceNeg, decide_true, decide_false, Bool.true_and, alS])))
        all_goals (subst hQ; simp (disch := first | assumption | omega) only [R.gantref5_CellsFault, go_sem, ↓reduceIte, reduceIte, Bool.true_and]; first | omega | (rw [cellsFault, if_neg h5, hf]; exact ⟨rfl, eh⟩))
    · obtain rfl : i = l.length := by omega
      rw [List.drop_length, cellsF] at hf
      simp (disch := first | assumption | omega) only [go_sem, ↓reduceIte, reduceIte, Int.reduceNeg, Bool.true_and]
      subst hQ
      simp (disch := first | assumption | omega) only [R.gantref5_CellsFault, go_sem, ↓reduceIte, reduceIte, Bool.true_and]
      rw [cellsFault, if_neg h5, hf]
      exact ⟨rfl, eh⟩
theorem Check_ok (o : Own) (m : Msg) (ho : Rdo o) (hl : m.Cells.length < 4611686018427387904) (h : List HObj) : ACalls Try.prog F.msg_Check [msgA o m] h (fun r h' => r = .int .i64 (checkF m) ∧ h' = h) := by
  refine ACalls.of_aw Try.func74 K.msg_Check (by simp [Try.f74]) ?_
  generalize hQ : retQ R.msg_Check _ = Q
  simp (disch := first | assumption | omega) only [C.msg_Check, go_sem, ↓reduceIte, Nat.reduceEqDiff, Nat.reduceLeDiff, reduceIte, Bool.true_and]
  simp (disch := first | assumption | omega) only [msgA, msgC, go_sem, Nat.reduceAdd, Int.reduceAdd, Bool.true_and]
  iterate 14 (all_goals (try ((first | refine aopsG_ifn (fun hb => ?_) (fun hb => ?_) | refine condG_ifn (fun hb => ?_) (fun hb => ?_) | refine aopsG_if (fun hb => ?_) (fun hb => ?_) | refine condG_if (fun hb => ?_) (fun hb => ?_) | refine aopsG_split (fun hb => ?_) (fun hb => ?_) | refine condG_split (fun hb => ?_) (fun hb => ?_)) <;> simp (disch := first | assumption | omega) only [hb, go_sem, ↓reduceIte, Nat.reduceEqDiff, Nat.reduceAdd, Nat.reduceLeDiff, Nat.reduceLT, reduceIte, cond_true, cond_false, Int.reduceLT, Int.reduceAdd, decide_true, decide_false, Bool.true_and, int_beq])))
  all_goals (try omega)
  all_goals first
    | (refine callG_ok (gridCheck_ok o m.Cells ho hl _) (by simp (disch := first | assumption | omega) only [go_sem]) ?_
       rintro _ _ ⟨rfl, hhh⟩
       rw [hhh]
       clear hhh
       simp (disch := first | assumption | omega) only [go_sem, ↓reduceIte, reduceIte, Bool.true_and]
       subst hQ
       simp (disch := first | assumption | omega) only [R.msg_Check, go_sem, ↓reduceIte, reduceIte, Bool.true_and]
       have : msgFault m = 0 := by unfold msgFault; (repeat split) <;> omega
       rw [checkF, if_neg (by simp [this])])
    | (subst hQ
       simp (disch := first | assumption | omega) only [R.msg_Check, go_sem, ↓reduceIte, reduceIte, Bool.true_and]
       refine congrArg (AVal.int .i64) ?_
       have : msgFault m ≠ 0 := by unfold msgFault; (repeat split) <;> omega
       rw [checkF, if_pos this]
       unfold msgFault; (repeat split) <;> omega)
end Go.Proofs.Ytpdajkbfemcdlaa
set_option linter.unusedSimpArgs false
set_option linter.unusedVariables false
set_option maxRecDepth 10000
namespace Go.Proofs.Ytpdajkbfemcdlaa
open Go.Ge
def after (a n : Int) : Int := (a + n) % 4294967296
end Go.Proofs.Ytpdajkbfemcdlaa
set_option linter.unusedSimpArgs false
set_option linter.unusedVariables false
set_option maxRecDepth 10000
namespace Go.Proofs.Ytpdajkbfemcdlaa
open Go.Ge
theorem EqualCell_ok (o1 o2 : Own) (a b : List Cell) (h1 : Rdo o1) (h2 : Rdo o2) (hl : a.length < 4611686018427387904) (hl2 : b.length < 4611686018427387904) (h : List HObj) :
    ACalls Try.prog F.slices_Equal_Cell [.lst o1 (cellsA a), .lst o2 (cellsA b)] h (fun r h' => r = .bool (decide (a = b)) ∧ h' = h) := by
  refine ACalls.of_aw Try.func123 K.slices_Equal_Cell (by simp [Try.f123]) ?_
  generalize hQ : retQ R.slices_Equal_Cell _ = Q
  simp (disch := first | assumption | omega) only [C.slices_Equal_Cell, go_sem, ↓reduceIte, Nat.reduceEqDiff, reduceCtorEq, reduceIte, Bool.true_and]
  by_cases he : a.length = b.length
  · simp (disch := first | assumption | omega) only [he, go_sem, ↓reduceIte, reduceCtorEq, reduceIte, Bool.true_and]
    refine aw_count (fun d S => ∃ (i : Nat), i + d = a.length ∧ S.env 13 = .int .i64 i ∧ S.env 12 = .int .i64 b.length ∧ S.env 0 = .lst o1 (cellsA a) ∧ S.env 1 = .lst o2 (cellsA b) ∧ a.take i = b.take i ∧ S.heap = h) (n := a.length) ⟨0, by simp [go_sem]⟩ ?_
    rintro d S ⟨i, hi, e13, e12, e0, e1, ht, eh⟩
    simp (disch := first | assumption | omega) only [e13, e12, go_sem, ↓reduceIte, reduceIte, Int.ofNat_lt, Bool.true_and]
    refine condG_if (fun hlt => ?_) fun hge => ?_
    · have hlt1 : i < a.length := by omega
      have hlt2 : i < b.length := by omega
      have hat1 := at_cells hlt1
      have hat2 := at_cells hlt2
      simp (disch := first | assumption | omega) only [e13, e0, e1, hat1, hat2, cellA, hlt1, hlt2, go_sem, ↓reduceIte, Nat.reduceEqDiff, reduceCtorEq, Nat.reduceAdd, Nat.reduceLeDiff, reduceIte, Int.natCast_nonneg, Int.ofNat_lt, Int.reduceAdd, decide_true, Bool.true_and, aggEq, scEq, hasSh, alS]
      refine condG_split (fun hb => ?_) fun hb => ?_
      · simp (disch := first | assumption | omega) only [go_sem, Bool.true_and]
        subst hQ
        simp (disch := first | assumption | omega) only [R.slices_Equal_Cell, eh, go_sem, ↓reduceIte, reduceIte, Bool.true_and]
        have : a ≠ b := by
          rintro rfl
          simp at hb
        simp [this, eh]
      · simp (disch := first | assumption | omega) only [e13, e12, e0, e1, eh, go_sem, ↓reduceIte, Nat.reduceEqDiff, reduceCtorEq, reduceIte, Bool.true_and]
        refine ⟨d - 1, by omega, i + 1, by omega, by simp, ?_⟩
        rw [List.take_add_one, List.take_add_one, ht, List.getElem?_eq_getElem hlt1, List.getElem?_eq_getElem hlt2]
        have : a[i] = b[i] := by
          simp at hb
          cases h1 : a[i]; cases h2 : b[i]; simp_all
        rw [this]
    · obtain rfl : i = a.length := by omega
      simp (disch := first | assumption | omega) only [go_sem, ↓reduceIte, reduceIte, Bool.true_and]
      subst hQ
      simp (disch := first | assumption | omega) only [R.slices_Equal_Cell, go_sem, ↓reduceIte, reduceIte, Bool.true_and]
      rw [List.take_length, he, List.take_length] at ht
      simp [ht, eh]
  · have hd : ¬((a.length : Int) = b.length) := by omega
    have hd2 : ((a.length : Int) != b.length) = true := by simpa using hd
    simp (disch := first | assumption | omega) only [hd2, go_sem, Bool.true_and]
    subst hQ
    simp (disch := first | assumption | omega) only [R.slices_Equal_Cell, go_sem, ↓reduceIte, reduceIte, Bool.true_and]
    have : a ≠ b := by rintro rfl; exact he rfl
    simp [this]
theorem CloneCell_ok (o : Own) (l : List Cell) (ho : Rdn o l) (hl : l.length * 16 ≤ reachBytes) (h : List HObj) :
    ACalls Try.prog F.slices_Clone_Cell [.lst o (cellsA l)] h (fun r h' => (∃ o', r = .lst o' (cellsA l) ∧ (o' = .nil ∧ l = [] ∨ o' = .app 2)) ∧ h' = h) := by
  have h1 := ho.1
  refine ACalls.of_aw Try.func148 K.slices_Clone_Cell (by simp [Try.f148]) ?_
  generalize hQ : retQ R.slices_Clone_Cell _ = Q
  simp (disch := first | assumption | omega) only [C.slices_Clone_Cell, go_sem, ↓reduceIte, reduceCtorEq, reduceIte, Bool.true_and]
  refine aops_isnilR (o := o) (xs := cellsA l) (by simp (disch := first | assumption | omega) only [go_sem, ↓reduceIte, reduceIte]) h1 (fun e => by rw [ho.2 e]; rfl) fun b hb => ?_
  cases b
  · simp (disch := first | assumption | omega) only [go_sem, ↓reduceIte, Nat.reduceEqDiff, reduceCtorEq, Nat.reduceLeDiff, reduceIte, Int.reduceMul, Nat.reduceMul, Bool.true_and]
    refine ⟨fun v hv => ?_, by unfold reachBytes at hl; omega, by unfold reachBytes at hl; omega, ?_⟩
    · obtain ⟨c, _, rfl⟩ := List.mem_map.1 hv; rfl
    subst hQ
    simp (disch := first | assumption | omega) only [R.slices_Clone_Cell, go_sem, ↓reduceIte, reduceIte, Bool.true_and]
    exact ⟨_, rfl, .inr rfl⟩
  · have : l = [] := by
      refine Classical.byContradiction fun h0 => ?_
      have := hb (by simpa [cellsA] using h0)
      cases this
    subst this
    simp (disch := first | assumption | omega) only [go_sem, ↓reduceIte, reduceIte, Bool.true_and]
    subst hQ
    simp (disch := first | assumption | omega) only [R.slices_Clone_Cell, go_sem, ↓reduceIte, reduceIte, Bool.true_and]
    exact ⟨.nil, by simp [cellsA], by simp⟩
theorem same_ok (o1 o2 : Own) (a b : Msg) (h1 : Rdo o1) (h2 : Rdo o2) (hl : a.Cells.length < 4611686018427387904) (hl2 : b.Cells.length < 4611686018427387904) (h : List HObj) :
    ACalls Try.prog F.gantlaw5_same [msgA o1 a, msgA o2 b] h (fun r h' => r = .bool (decide (a = b)) ∧ h' = h) := by
  refine ACalls.of_aw Try.func48 K.gantlaw5_same (by simp [Try.f48]) ?_
  generalize hQ : retQ R.gantlaw5_same _ = Q
  simp (disch := first | assumption | omega) only [C.gantlaw5_same, go_sem, ↓reduceIte, Nat.reduceEqDiff, reduceCtorEq, Nat.reduceLeDiff, reduceIte, Bool.true_and]
  simp (disch := first | assumption | omega) only [msgA, msgC, go_sem, Nat.reduceAdd, Int.reduceAdd, Bool.true_and]
  refine aopsG_split (fun hb1 => ?_) (fun hb1 => ?_)
  rotate_left
  · simp (disch := first | assumption | omega) only [hb1, go_sem, ↓reduceIte, Nat.reduceEqDiff, reduceIte, cond_false, Bool.true_and]
    subst hQ
    simp (disch := first | assumption | omega) only [R.gantlaw5_same, go_sem, ↓reduceIte, reduceIte, Bool.true_and]
    have : a ≠ b := by rintro rfl; simp at hb1
    simp [this]
  simp (disch := first | assumption | omega) only [hb1, go_sem, ↓reduceIte, Nat.reduceEqDiff, Nat.reduceAdd, Nat.reduceLeDiff, reduceIte, cond_true, Int.reduceAdd, Bool.true_and]
  refine aopsG_split (fun hb2 => ?_) (fun hb2 => ?_)
  rotate_left
  · simp (disch := first | assumption | omega) only [hb2, go_sem, ↓reduceIte, Nat.reduceEqDiff, reduceIte, cond_false, Bool.true_and]
    subst hQ
    simp (disch := first | assumption | omega) only [R.gantlaw5_same, go_sem, ↓reduceIte, reduceIte, Bool.true_and]
    have : a ≠ b := by rintro rfl; simp at hb2
    simp [this]
  simp (disch := first | assumption | omega) only [hb2, go_sem, ↓reduceIte, Nat.reduceEqDiff, Nat.reduceAdd, Nat.reduceLeDiff, reduceIte, cond_true, Int.reduceAdd, Bool.true_and]
  refine aopsG_split (fun hb3 => ?_) (fun hb3 => ?_)
  rotate_left
  · simp (disch := first | assumption | omega) only [hb3, go_sem, ↓reduceIte, Nat.reduceEqDiff, reduceIte, cond_false, Bool.true_and]
    subst hQ
    simp (disch := first | assumption | omega) only [R.gantlaw5_same, go_sem, ↓reduceIte, reduceIte, Bool.true_and]
    have : a ≠ b := by rintro rfl; simp at hb3
    simp [this]
  simp (disch := first | assumption | omega) only [hb3, go_sem, ↓reduceIte, Nat.reduceEqDiff, Nat.reduceAdd, Nat.reduceLeDiff, reduceIte, cond_true, Int.reduceAdd, Bool.true_and]
  refine aopsG_split (fun hb4 => ?_) (fun hb4 => ?_)
  rotate_left
  · simp (disch := first | assumption | omega) only [hb4, go_sem, ↓reduceIte, Nat.reduceEqDiff, reduceIte, cond_false, Bool.true_and]
    subst hQ
    simp (disch := first | assumption | omega) only [R.gantlaw5_same, go_sem, ↓reduceIte, reduceIte, Bool.true_and]
    have : a ≠ b := by rintro rfl; simp at hb4
    simp [this]
  simp (disch := first | assumption | omega) only [hb4, go_sem, ↓reduceIte, Nat.reduceEqDiff, Nat.reduceAdd, Nat.reduceLeDiff, reduceIte, cond_true, Int.reduceAdd, Bool.true_and]
  refine aopsG_split (fun hb5 => ?_) (fun hb5 => ?_)
  rotate_left
  · simp (disch := first | assumption | omega) only [hb5, go_sem, ↓reduceIte, Nat.reduceEqDiff, reduceIte, cond_false, Bool.true_and]
    subst hQ
    simp (disch := first | assumption | omega) only [R.gantlaw5_same, go_sem, ↓reduceIte, reduceIte, Bool.true_and]
    have : a ≠ b := by rintro rfl; simp at hb5
    simp [this]
  simp (disch := first | assumption | omega) only [hb5, go_sem, ↓reduceIte, Nat.reduceEqDiff, Nat.reduceAdd, Nat.reduceLeDiff, Nat.reduceLT, reduceIte, Int.reduceLT, Int.reduceAdd, Bool.true_and]
  refine callG_ok (EqualCell_ok o1 o2 a.Cells b.Cells h1 h2 hl hl2 _) (by simp (disch := first | assumption | omega) only [go_sem]) ?_
  rintro _ _ ⟨rfl, hhh⟩
  try rw [hhh]
  clear hhh
  simp (disch := first | assumption | omega) only [go_sem, ↓reduceIte, Nat.reduceEqDiff, reduceIte, cond_true, Bool.true_and]
  subst hQ
  simp (disch := first | assumption | omega) only [R.gantlaw5_same, go_sem, ↓reduceIte, reduceIte, Bool.true_and]
  have : decide (a.Cells = b.Cells) = decide (a = b) := by
    cases a; cases b; simp at hb1 hb2 hb3 hb4 hb5; simp_all
  rw [this]
end Go.Proofs.Ytpdajkbfemcdlaa
namespace Go.Proofs.Ytpdajkbfemcdlaa
open Go.Ge
def C.slices_insertionSortCmpFunc_Cell : ACode :=
  .seq (.region [.m 10 1,⟨some 11, .bin .add (.t 10) (.c (.int .i64 1)), none⟩,.m 8 11]) (
  .block 0 (.loop (.seq (.seq (.region [.m 12 8,.m 13 2,⟨some 14, .bin .lss (.t 12) (.t 13), none⟩]) (
  .cond (.t 14) (.skip) (.exit 0))) (
  .seq (.block 1 (.seq (.region [.m 17 8,.m 9 17]) (
  .block 2 (.loop (.seq (.seq (.drawn [0, 1, 2, 3, 4, 5, 6, 7, 8, 9, 10, 11, 12, 13, 14, 15, 16] [0, 0, 3, 7, 15, 15, 15, 111, 239, 15, 15, 1039, 3599, 7695, 16383, 32767, 65535] [.m 18 9,.m 19 1,⟨some 20, .bin .gtr (.t 18) (.t 19), none⟩,.m 21 20,⟨some 22, .move false (.t 3), (some (21, true))⟩,⟨some 23, .move false (.t 0), (some (21, true))⟩,⟨some 24, .move false (.t 9), (some (21, true))⟩,⟨some 25, .iaddr 2 (.t 23) (.t 24), (some (21, true))⟩,⟨some 26, .load 2 true 2 (.t 25), (some (21, true))⟩,⟨some 27, .move false (.t 0), (some (21, true))⟩,⟨some 28, .move false (.t 9), (some (21, true))⟩,⟨some 29, .bin .sub (.t 28) (.c (.int .i64 1)), (some (21, true))⟩,⟨some 30, .iaddr 2 (.t 27) (.t 29), (some (21, true))⟩,⟨some 31, .load 2 true 2 (.t 30), (some (21, true))⟩,⟨some 32, .hop (.callvq (.t 22) [(.t 26), (.t 31)]), (some (21, true))⟩,⟨some 33, .bin .lss (.t 32) (.c (.int .i64 0)), (some (21, true))⟩,⟨some 34, .pick (.t 21) (.t 33) (.c (.bool false)), none⟩]) (
  .cond (.t 34) (.skip) (.exit 2))) (
  .seq (.block 3 (.drawn [0, 1, 2, 3, 4, 5, 6, 7, 8, 9, 10, 11, 12, 13, 14, 15, 16, 17] [0, 0, 0, 0, 8, 0, 0, 64, 224, 480, 0, 0, 3072, 7168, 16355, 32739, 65535, 131071] [.m 37 0,.m 38 9,.m 39 0,.m 40 9,⟨some 41, .bin .sub (.t 40) (.c (.int .i64 1)), none⟩,.m 42 0,.m 43 9,⟨some 44, .bin .sub (.t 43) (.c (.int .i64 1)), none⟩,⟨some 45, .iaddr 2 (.t 42) (.t 44), none⟩,⟨some 46, .load 2 true 2 (.t 45), none⟩,.m 47 0,.m 48 9,⟨some 49, .iaddr 2 (.t 47) (.t 48), none⟩,⟨some 50, .load 2 true 2 (.t 49), none⟩,⟨some 51, .iaddr 2 (.t 37) (.t 38), none⟩,⟨none, .store 2 (.t 51) (.t 46), none⟩,⟨some 52, .iaddr 2 (.t 39) (.t 41), none⟩,⟨none, .store 2 (.t 52) (.t 50), none⟩])) (
  .region [.m 35 9,⟨some 36, .bin .sub (.t 35) (.c (.int .i64 1)), none⟩,.m 9 36]))))))) (
  .region [.m 15 8,⟨some 16, .bin .add (.t 15) (.c (.int .i64 1)), none⟩,.m 8 16])))))
def R.slices_insertionSortCmpFunc_Cell : List ARes := []
set_option maxRecDepth 100000 in
theorem K.slices_insertionSortCmpFunc_Cell : ckFun Try.prog Try.f219 C.slices_insertionSortCmpFunc_Cell R.slices_insertionSortCmpFunc_Cell = true := by kernel_rfl
def C.slices_SortFunc_Cell : ACode :=
  .seq (.region [.m 5 0,⟨some 6, .len (.t 5), none⟩,.m 4 6]) (
  .region [.m 7 0,.m 8 4,.m 9 4,⟨some 10, .conv .u64 (.t 9), none⟩,⟨some 11, .call true F.bits_Len [(.t 10)], none⟩,.m 12 1,⟨some 13, .call true F.slices_pdqsortCmpFunc_Cell [(.t 7), (.c (.int .i64 0)), (.t 8), (.t 11), (.t 12)], none⟩])
def R.slices_SortFunc_Cell : List ARes := []
set_option maxRecDepth 100000 in
theorem K.slices_SortFunc_Cell : ckFun Try.prog Try.f180 C.slices_SortFunc_Cell R.slices_SortFunc_Cell = true := by kernel_rfl
def C.bits_Len : ACode :=
  .seq (.region [⟨some 2, .move false (.c (.int .i64 0)), none⟩]) (
  .seq (.cond (.c (.bool false)) (.seq (.region [.m 3 0,⟨some 4, .conv .u32 (.t 3), none⟩,⟨some 5, .call true F.bits_Len32 [(.t 4)], none⟩,.m 2 5]) (
  .ret)) (.skip)) (
  .seq (.region [.m 6 0,⟨some 7, .call true F.bits_Len64 [(.t 6)], none⟩,.m 2 7]) (
  .ret)))
def R.bits_Len : List ARes := [.t 2]
set_option maxRecDepth 100000 in
theorem K.bits_Len : ckFun Try.prog Try.f204 C.bits_Len R.bits_Len = true := by kernel_rfl
def C.bits_Len64 : ACode :=
  .seq (.region [⟨some 2, .move false (.c (.int .i64 0)), none⟩]) (
  .seq (.seq (.region [.m 3 0,⟨some 4, .bin .geq (.t 3) (.c (.int .u64 4294967296)), none⟩]) (
  .cond (.t 4) (.seq (.region [.m 5 0,⟨some 6, .bin .shr (.t 5) (.c (.int .u64 32)), none⟩,.m 0 6]) (
  .region [⟨some 2, .move false (.c (.int .i64 32)), none⟩])) (.skip))) (
  .seq (.seq (.region [.m 7 0,⟨some 8, .bin .geq (.t 7) (.c (.int .u64 65536)), none⟩]) (
  .cond (.t 8) (.seq (.region [.m 9 0,⟨some 10, .bin .shr (.t 9) (.c (.int .u64 16)), none⟩,.m 0 10]) (
  .region [.m 11 2,⟨some 12, .bin .add (.t 11) (.c (.int .i64 16)), none⟩,.m 2 12])) (.skip))) (
  .seq (.seq (.region [.m 13 0,⟨some 14, .bin .geq (.t 13) (.c (.int .u64 256)), none⟩]) (
  .cond (.t 14) (.seq (.region [.m 15 0,⟨some 16, .bin .shr (.t 15) (.c (.int .u64 8)), none⟩,.m 0 16]) (
  .region [.m 17 2,⟨some 18, .bin .add (.t 17) (.c (.int .i64 8)), none⟩,.m 2 18])) (.skip))) (
  .seq (.region [.m 19 2,.m 20 0,⟨some 21, .conv .u8 (.t 20), none⟩,⟨some 22, .idx (.c (.str ⟨#[0, 1, 2, 2, 3, 3, 3, 3, 4, 4, 4, 4, 4, 4, 4, 4, 5, 5, 5, 5, 5, 5, 5, 5, 5, 5, 5, 5, 5, 5, 5, 5, 6, 6, 6, 6, 6, 6, 6, 6, 6, 6, 6, 6, 6, 6, 6, 6, 6, 6, 6, 6, 6, 6, 6, 6, 6, 6, 6, 6, 6, 6, 6, 6, 7, 7, 7, 7, 7, 7, 7, 7, 7, 7, 7, 7, 7, 7, 7, 7, 7, 7, 7, 7, 7, 7, 7, 7, 7, 7, 7, 7, 7, 7, 7, 7, 7, 7, 7, 7, 7, 7, 7, 7, 7, 7, 7, 7, 7, 7, 7, 7, 7, 7, 7, 7, 7, 7, 7, 7, 7, 7, 7, 7, 7, 7, 7, 7, 8, 8, 8, 8, 8, 8, 8, 8, 8, 8, 8, 8, 8, 8, 8, 8, 8, 8, 8, 8, 8, 8, 8, 8, 8, 8, 8, 8, 8, 8, 8, 8, 8, 8, 8, 8, 8, 8, 8, 8, 8, 8, 8, 8, 8, 8, 8, 8, 8, 8, 8, 8, 8, 8, 8, 8, 8, 8, 8, 8, 8, 8, 8, 8, 8, 8, 8, 8, 8, 8, 8, 8, 8, 8, 8, 8, 8, 8, 8, 8, 8, 8, 8, 8, 8, 8, 8, 8, 8, 8, 8, 8, 8, 8, 8, 8, 8, 8, 8, 8, 8, 8, 8, 8, 8, 8, 8, 8, 8, 8, 8, 8, 8, 8, 8, 8, 8, 8, 8, 8, 8, 8, 8, 8, 8, 8, 8, 8]⟩)) (.t 21), none⟩,⟨some 23, .conv .i64 (.t 22), none⟩,⟨some 24, .bin .add (.t 19) (.t 23), none⟩,.m 2 24]) (
  .ret)))))
def R.bits_Len64 : List ARes := [.t 2]
set_option maxRecDepth 100000 in
theorem K.bits_Len64 : ckFun Try.prog Try.f228 C.bits_Len64 R.bits_Len64 = true := by kernel_rfl
end Go.Proofs.Ytpdajkbfemcdlaa
namespace Go.Proofs.Ytpdajkbfemcdlaa
open Go.Ge
def C.slices_siftDownCmpFunc_Cell : ACode :=
  .seq (.region [.m 12 1,.m 10 12]) (
  .block 0 (.loop (.block 1 (.seq (.region [.m 13 10,⟨some 14, .bin .mul (.c (.int .i64 2)) (.t 13), none⟩,⟨some 15, .bin .add (.t 14) (.c (.int .i64 1)), none⟩,.m 11 15]) (
  .seq (.seq (.region [.m 16 11,.m 17 2,⟨some 18, .bin .geq (.t 16) (.t 17), none⟩]) (
  .cond (.t 18) (.exit 0) (.skip))) (
  .seq (.seq (.drawn [0, 1, 2, 3, 4, 5, 6, 7, 8, 9, 10, 11, 12, 13, 14, 15, 16, 17, 18, 19, 20, 21] [0, 1, 0, 7, 15, 31, 31, 31, 31, 415, 991, 2015, 31, 31, 31, 24607, 57375, 127007, 258079, 524287, 1048575, 2097151] [.m 19 11,⟨some 20, .bin .add (.t 19) (.c (.int .i64 1)), none⟩,.m 21 2,⟨some 22, .bin .lss (.t 20) (.t 21), none⟩,.m 23 22,⟨some 24, .move false (.t 4), (some (23, true))⟩,⟨some 25, .move false (.t 0), (some (23, true))⟩,⟨some 26, .move false (.t 3), (some (23, true))⟩,⟨some 27, .move false (.t 11), (some (23, true))⟩,⟨some 28, .bin .add (.t 26) (.t 27), (some (23, true))⟩,⟨some 29, .iaddr 2 (.t 25) (.t 28), (some (23, true))⟩,⟨some 30, .load 2 true 2 (.t 29), (some (23, true))⟩,⟨some 31, .move false (.t 0), (some (23, true))⟩,⟨some 32, .move false (.t 3), (some (23, true))⟩,⟨some 33, .move false (.t 11), (some (23, true))⟩,⟨some 34, .bin .add (.t 32) (.t 33), (some (23, true))⟩,⟨some 35, .bin .add (.t 34) (.c (.int .i64 1)), (some (23, true))⟩,⟨some 36, .iaddr 2 (.t 31) (.t 35), (some (23, true))⟩,⟨some 37, .load 2 true 2 (.t 36), (some (23, true))⟩,⟨some 38, .hop (.callvq (.t 24) [(.t 30), (.t 37)]), (some (23, true))⟩,⟨some 39, .bin .lss (.t 38) (.c (.int .i64 0)), (some (23, true))⟩,⟨some 40, .pick (.t 23) (.t 39) (.c (.bool false)), none⟩]) (
  .cond (.t 40) (.region [.m 41 11,⟨some 42, .bin .add (.t 41) (.c (.int .i64 1)), none⟩,.m 11 42]) (.skip))) (
  .seq (.seq (.drawn [0, 1, 2, 3, 4, 5, 6, 7, 8, 9, 10, 11, 12, 13, 14, 15] [0, 0, 0, 0, 12, 30, 62, 0, 0, 0, 768, 1920, 3968, 8191, 16383, 32767] [.m 43 4,.m 44 0,.m 45 3,.m 46 10,⟨some 47, .bin .add (.t 45) (.t 46), none⟩,⟨some 48, .iaddr 2 (.t 44) (.t 47), none⟩,⟨some 49, .load 2 true 2 (.t 48), none⟩,.m 50 0,.m 51 3,.m 52 11,⟨some 53, .bin .add (.t 51) (.t 52), none⟩,⟨some 54, .iaddr 2 (.t 50) (.t 53), none⟩,⟨some 55, .load 2 true 2 (.t 54), none⟩,⟨some 56, .hop (.callvq (.t 43) [(.t 49), (.t 55)]), none⟩,⟨some 57, .bin .lss (.t 56) (.c (.int .i64 0)), none⟩,⟨some 58, .un .not (.t 57), none⟩]) (
  .cond (.t 58) (.ret) (.skip))) (
  .seq (.drawn [0, 1, 2, 3, 4, 5, 6, 7, 8, 9, 10, 11, 12, 13, 14, 15, 16, 17, 18, 19, 20, 21, 22, 23] [0, 0, 0, 6, 0, 0, 0, 96, 0, 0, 0, 1536, 3840, 7936, 0, 0, 0, 98304, 245760, 507904, 1048335, 2096911, 4194303, 8388607] [.m 59 0,.m 60 3,.m 61 10,⟨some 62, .bin .add (.t 60) (.t 61), none⟩,.m 63 0,.m 64 3,.m 65 11,⟨some 66, .bin .add (.t 64) (.t 65), none⟩,.m 67 0,.m 68 3,.m 69 11,⟨some 70, .bin .add (.t 68) (.t 69), none⟩,⟨some 71, .iaddr 2 (.t 67) (.t 70), none⟩,⟨some 72, .load 2 true 2 (.t 71), none⟩,.m 73 0,.m 74 3,.m 75 10,⟨some 76, .bin .add (.t 74) (.t 75), none⟩,⟨some 77, .iaddr 2 (.t 73) (.t 76), none⟩,⟨some 78, .load 2 true 2 (.t 77), none⟩,⟨some 79, .iaddr 2 (.t 59) (.t 62), none⟩,⟨none, .store 2 (.t 79) (.t 72), none⟩,⟨some 80, .iaddr 2 (.t 63) (.t 66), none⟩,⟨none, .store 2 (.t 80) (.t 78), none⟩]) (
  .region [.m 81 11,.m 10 81])))))))))
def R.slices_siftDownCmpFunc_Cell : List ARes := []
set_option maxRecDepth 100000 in
theorem K.slices_siftDownCmpFunc_Cell : ckFun Try.prog Try.f234 C.slices_siftDownCmpFunc_Cell R.slices_siftDownCmpFunc_Cell = true := by kernel_rfl
def C.slices_heapSortCmpFunc_Cell : ACode :=
  .seq (.region [.m 13 1,.m 8 13]) (
  .seq (.region [⟨some 9, .move false (.c (.int .i64 0)), none⟩]) (
  .seq (.region [.m 14 2,.m 15 1,⟨some 16, .bin .sub (.t 14) (.t 15), none⟩,.m 10 16]) (
  .seq (.seq (.region [.m 17 10,⟨some 18, .bin .sub (.t 17) (.c (.int .i64 1)), none⟩,⟨some 19, .bin .quo (.t 18) (.c (.int .i64 2)), none⟩,.m 11 19]) (
  .block 0 (.loop (.seq (.seq (.region [.m 20 11,⟨some 21, .bin .geq (.t 20) (.c (.int .i64 0)), none⟩]) (
  .cond (.t 21) (.skip) (.exit 0))) (
  .seq (.block 1 (.region [.m 24 0,.m 25 11,.m 26 10,.m 27 8,.m 28 3,⟨some 29, .call true F.slices_siftDownCmpFunc_Cell [(.t 24), (.t 25), (.t 26), (.t 27), (.t 28)], none⟩])) (
  .region [.m 22 11,⟨some 23, .bin .sub (.t 22) (.c (.int .i64 1)), none⟩,.m 11 23])))))) (
  .seq (.region [.m 30 10,⟨some 31, .bin .sub (.t 30) (.c (.int .i64 1)), none⟩,.m 12 31]) (
  .block 2 (.loop (.seq (.seq (.region [.m 32 12,⟨some 33, .bin .geq (.t 32) (.c (.int .i64 0)), none⟩]) (
  .cond (.t 33) (.skip) (.exit 2))) (
  .seq (.block 3 (.seq (.drawn [0, 1, 2, 3, 4, 5, 6, 7, 8, 9, 10, 11, 12, 13, 14, 15, 16, 17, 18, 19] [0, 0, 0, 0, 0, 24, 0, 0, 0, 384, 960, 1984, 0, 0, 12288, 28672, 65475, 131011, 262143, 524287] [.m 36 0,.m 37 8,.m 38 0,.m 39 8,.m 40 12,⟨some 41, .bin .add (.t 39) (.t 40), none⟩,.m 42 0,.m 43 8,.m 44 12,⟨some 45, .bin .add (.t 43) (.t 44), none⟩,⟨some 46, .iaddr 2 (.t 42) (.t 45), none⟩,⟨some 47, .load 2 true 2 (.t 46), none⟩,.m 48 0,.m 49 8,⟨some 50, .iaddr 2 (.t 48) (.t 49), none⟩,⟨some 51, .load 2 true 2 (.t 50), none⟩,⟨some 52, .iaddr 2 (.t 36) (.t 37), none⟩,⟨none, .store 2 (.t 52) (.t 47), none⟩,⟨some 53, .iaddr 2 (.t 38) (.t 41), none⟩,⟨none, .store 2 (.t 53) (.t 51), none⟩]) (
  .region [.m 54 0,.m 55 9,.m 56 12,.m 57 8,.m 58 3,⟨some 59, .call true F.slices_siftDownCmpFunc_Cell [(.t 54), (.t 55), (.t 56), (.t 57), (.t 58)], none⟩]))) (
  .region [.m 34 12,⟨some 35, .bin .sub (.t 34) (.c (.int .i64 1)), none⟩,.m 12 35])))))))))
def R.slices_heapSortCmpFunc_Cell : List ARes := []
set_option maxRecDepth 100000 in
theorem K.slices_heapSortCmpFunc_Cell : ckFun Try.prog Try.f220 C.slices_heapSortCmpFunc_Cell R.slices_heapSortCmpFunc_Cell = true := by kernel_rfl
def C.slices_order2CmpFunc_Cell : ACode :=
  .seq (.region [⟨some 10, .move false (.c (.int .i64 0)), none⟩,⟨some 11, .move false (.c (.int .i64 0)), none⟩]) (
  .seq (.seq (.drawn [0, 1, 2, 3, 4, 5, 6, 7, 8, 9, 10] [0, 0, 0, 6, 14, 0, 0, 96, 224, 511, 1023] [.m 12 4,.m 13 0,.m 14 2,⟨some 15, .iaddr 2 (.t 13) (.t 14), none⟩,⟨some 16, .load 2 true 2 (.t 15), none⟩,.m 17 0,.m 18 1,⟨some 19, .iaddr 2 (.t 17) (.t 18), none⟩,⟨some 20, .load 2 true 2 (.t 19), none⟩,⟨some 21, .hop (.callvq (.t 12) [(.t 16), (.t 20)]), none⟩,⟨some 22, .bin .lss (.t 21) (.c (.int .i64 0)), none⟩]) (
  .cond (.t 22) (.seq (.region [.m 23 3,⟨some 24, .nilck (.t 23), none⟩,⟨some 25, .load 2 false 1 (.t 24), none⟩,⟨some 26, .bin .add (.t 25) (.c (.int .i64 1)), none⟩,⟨some 27, .nilck (.t 23), none⟩,⟨none, .store 1 (.t 27) (.t 26), none⟩]) (
  .seq (.region [.m 28 2,.m 29 1,.m 10 28,.m 11 29]) (
  .ret))) (.skip))) (
  .seq (.region [.m 30 1,.m 31 2,.m 10 30,.m 11 31]) (
  .ret)))
def R.slices_order2CmpFunc_Cell : List ARes := [.t 10, .t 11]
set_option maxRecDepth 100000 in
theorem K.slices_order2CmpFunc_Cell : ckFun Try.prog Try.f240 C.slices_order2CmpFunc_Cell R.slices_order2CmpFunc_Cell = true := by kernel_rfl
def C.slices_medianCmpFunc_Cell : ACode :=
  .seq (.region [⟨some 12, .move false (.c (.int .i64 0)), none⟩]) (
  .seq (.region [.m 14 0,.m 15 1,.m 16 2,.m 17 4,.m 18 5,⟨some 19, .call true F.slices_order2CmpFunc_Cell [(.t 14), (.t 15), (.t 16), (.t 17), (.t 18)], none⟩,.m 13 19,⟨some 20, .ext 0 (.t 13), none⟩,⟨some 21, .ext 1 (.t 13), none⟩,.m 1 20,.m 2 21]) (
  .seq (.region [.m 23 0,.m 24 2,.m 25 3,.m 26 4,.m 27 5,⟨some 28, .call true F.slices_order2CmpFunc_Cell [(.t 23), (.t 24), (.t 25), (.t 26), (.t 27)], none⟩,.m 22 28,⟨some 29, .ext 0 (.t 22), none⟩,⟨some 30, .ext 1 (.t 22), none⟩,.m 2 29,.m 3 30]) (
  .seq (.region [.m 32 0,.m 33 1,.m 34 2,.m 35 4,.m 36 5,⟨some 37, .call true F.slices_order2CmpFunc_Cell [(.t 32), (.t 33), (.t 34), (.t 35), (.t 36)], none⟩,.m 31 37,⟨some 38, .ext 0 (.t 31), none⟩,⟨some 39, .ext 1 (.t 31), none⟩,.m 1 38,.m 2 39]) (
  .seq (.region [.m 40 2,.m 12 40]) (
  .ret)))))
def R.slices_medianCmpFunc_Cell : List ARes := [.t 12]
set_option maxRecDepth 100000 in
theorem K.slices_medianCmpFunc_Cell : ckFun Try.prog Try.f238 C.slices_medianCmpFunc_Cell R.slices_medianCmpFunc_Cell = true := by kernel_rfl
def C.slices_medianAdjacentCmpFunc_Cell : ACode :=
  .seq (.region [⟨some 8, .move false (.c (.int .i64 0)), none⟩]) (
  .seq (.region [.m 9 0,.m 10 1,⟨some 11, .bin .sub (.t 10) (.c (.int .i64 1)), none⟩,.m 12 1,.m 13 1,⟨some 14, .bin .add (.t 13) (.c (.int .i64 1)), none⟩,.m 15 2,.m 16 3,⟨some 17, .call true F.slices_medianCmpFunc_Cell [(.t 9), (.t 11), (.t 12), (.t 14), (.t 15), (.t 16)], none⟩,.m 8 17]) (
  .ret))
def R.slices_medianAdjacentCmpFunc_Cell : List ARes := [.t 8]
set_option maxRecDepth 100000 in
theorem K.slices_medianAdjacentCmpFunc_Cell : ckFun Try.prog Try.f237 C.slices_medianAdjacentCmpFunc_Cell R.slices_medianAdjacentCmpFunc_Cell = true := by kernel_rfl
def C.slices_choosePivotCmpFunc_Cell : ACode :=
  .seq (.region [⟨some 8, .move false (.c (.int .i64 0)), none⟩,⟨some 9, .move false (.c (.int .i64 0)), none⟩]) (
  .seq (.region [.m 15 2,.m 16 1,⟨some 17, .bin .sub (.t 15) (.t 16), none⟩,.m 10 17]) (
  .seq (.region [⟨some 11, .alloc false [(.int .i64 0)], none⟩]) (
  .seq (.prom 11 (.region [.m 18 1,.m 19 10,⟨some 20, .bin .quo (.t 19) (.c (.int .i64 4)), none⟩,⟨some 21, .bin .mul (.t 20) (.c (.int .i64 1)), none⟩,⟨some 22, .bin .add (.t 18) (.t 21), none⟩,.m 12 22])) (
  .seq (.region [.m 23 1,.m 24 10,⟨some 25, .bin .quo (.t 24) (.c (.int .i64 4)), none⟩,⟨some 26, .bin .mul (.t 25) (.c (.int .i64 2)), none⟩,⟨some 27, .bin .add (.t 23) (.t 26), none⟩,.m 13 27]) (
  .seq (.region [.m 28 1,.m 29 10,⟨some 30, .bin .quo (.t 29) (.c (.int .i64 4)), none⟩,⟨some 31, .bin .mul (.t 30) (.c (.int .i64 3)), none⟩,⟨some 32, .bin .add (.t 28) (.t 31), none⟩,.m 14 32]) (
  .seq (.seq (.region [.m 33 10,⟨some 34, .bin .geq (.t 33) (.c (.int .i64 8)), none⟩]) (
  .cond (.t 34) (.seq (.seq (.region [.m 35 10,⟨some 36, .bin .geq (.t 35) (.c (.int .i64 50)), none⟩]) (
  .cond (.t 36) (.seq (.region [.m 37 0,.m 38 12,.m 39 3,⟨some 40, .call true F.slices_medianAdjacentCmpFunc_Cell [(.t 37), (.t 38), (.t 11), (.t 39)], none⟩,.m 12 40]) (
  .seq (.region [.m 41 0,.m 42 13,.m 43 3,⟨some 44, .call true F.slices_medianAdjacentCmpFunc_Cell [(.t 41), (.t 42), (.t 11), (.t 43)], none⟩,.m 13 44]) (
  .region [.m 45 0,.m 46 14,.m 47 3,⟨some 48, .call true F.slices_medianAdjacentCmpFunc_Cell [(.t 45), (.t 46), (.t 11), (.t 47)], none⟩,.m 14 48]))) (.skip))) (
  .region [.m 49 0,.m 50 12,.m 51 13,.m 52 14,.m 53 3,⟨some 54, .call true F.slices_medianCmpFunc_Cell [(.t 49), (.t 50), (.t 51), (.t 52), (.t 11), (.t 53)], none⟩,.m 13 54])) (.skip))) (
  .seq (.region [⟨some 55, .load 2 false 1 (.t 11), none⟩]) (
  .block 0 (.seq (.region [⟨some 58, .bin .eql (.t 55) (.c (.int .i64 0)), none⟩,.m 57 58]) (
  .cond (.t 57) (.seq (.region [.m 59 13,.m 8 59,⟨some 9, .move false (.c (.int .i64 1)), none⟩]) (
  .ret)) (.seq (.region [⟨some 61, .bin .eql (.t 55) (.c (.int .i64 12)), none⟩,.m 60 61]) (
  .cond (.t 60) (.seq (.region [.m 62 13,.m 8 62,⟨some 9, .move false (.c (.int .i64 2)), none⟩]) (
  .ret)) (.seq (.region [.m 56 13,.m 8 56,⟨some 9, .move false (.c (.int .i64 0)), none⟩]) (
  .ret))))))))))))))
def R.slices_choosePivotCmpFunc_Cell : List ARes := [.t 8, .t 9]
set_option maxRecDepth 100000 in
theorem K.slices_choosePivotCmpFunc_Cell : ckFun Try.prog Try.f222 C.slices_choosePivotCmpFunc_Cell R.slices_choosePivotCmpFunc_Cell = true := by kernel_rfl
def C.slices_reverseRangeCmpFunc_Cell : ACode :=
  .seq (.region [.m 10 1,.m 8 10]) (
  .seq (.region [.m 11 2,⟨some 12, .bin .sub (.t 11) (.c (.int .i64 1)), none⟩,.m 9 12]) (
  .block 0 (.loop (.seq (.seq (.region [.m 13 8,.m 14 9,⟨some 15, .bin .lss (.t 13) (.t 14), none⟩]) (
  .cond (.t 15) (.skip) (.exit 0))) (
  .block 1 (.seq (.drawn [0, 1, 2, 3, 4, 5, 6, 7, 8, 9, 10, 11, 12, 13, 14, 15] [0, 0, 0, 0, 0, 0, 48, 112, 0, 0, 768, 1792, 4083, 8179, 16383, 32767] [.m 16 0,.m 17 8,.m 18 0,.m 19 9,.m 20 0,.m 21 9,⟨some 22, .iaddr 2 (.t 20) (.t 21), none⟩,⟨some 23, .load 2 true 2 (.t 22), none⟩,.m 24 0,.m 25 8,⟨some 26, .iaddr 2 (.t 24) (.t 25), none⟩,⟨some 27, .load 2 true 2 (.t 26), none⟩,⟨some 28, .iaddr 2 (.t 16) (.t 17), none⟩,⟨none, .store 2 (.t 28) (.t 23), none⟩,⟨some 29, .iaddr 2 (.t 18) (.t 19), none⟩,⟨none, .store 2 (.t 29) (.t 27), none⟩]) (
  .seq (.region [.m 30 8,⟨some 31, .bin .add (.t 30) (.c (.int .i64 1)), none⟩,.m 8 31]) (
  .region [.m 32 9,⟨some 33, .bin .sub (.t 32) (.c (.int .i64 1)), none⟩,.m 9 33]))))))))
def R.slices_reverseRangeCmpFunc_Cell : List ARes := []
set_option maxRecDepth 100000 in
theorem K.slices_reverseRangeCmpFunc_Cell : ckFun Try.prog Try.f223 C.slices_reverseRangeCmpFunc_Cell R.slices_reverseRangeCmpFunc_Cell = true := by kernel_rfl
def C.slices_xorshift_Next : ACode :=
  .seq (.region [⟨some 2, .move false (.c (.int .u64 0)), none⟩]) (
  .seq (.drawn [0, 1, 2, 3, 4, 5, 6, 7, 8, 9] [0, 1, 3, 0, 8, 24, 56, 127, 255, 511] [.m 3 0,⟨some 4, .nilck (.t 3), none⟩,⟨some 5, .load 2 false 1 (.t 4), none⟩,.m 6 0,⟨some 7, .nilck (.t 6), none⟩,⟨some 8, .load 2 false 1 (.t 7), none⟩,⟨some 9, .bin .shl (.t 8) (.c (.int .u64 13)), none⟩,⟨some 10, .bin .xor (.t 5) (.t 9), none⟩,⟨some 11, .nilck (.t 3), none⟩,⟨none, .store 1 (.t 11) (.t 10), none⟩]) (
  .seq (.drawn [0, 1, 2, 3, 4, 5, 6, 7, 8, 9] [0, 1, 3, 0, 8, 24, 56, 127, 255, 511] [.m 12 0,⟨some 13, .nilck (.t 12), none⟩,⟨some 14, .load 2 false 1 (.t 13), none⟩,.m 15 0,⟨some 16, .nilck (.t 15), none⟩,⟨some 17, .load 2 false 1 (.t 16), none⟩,⟨some 18, .bin .shr (.t 17) (.c (.int .u64 7)), none⟩,⟨some 19, .bin .xor (.t 14) (.t 18), none⟩,⟨some 20, .nilck (.t 12), none⟩,⟨none, .store 1 (.t 20) (.t 19), none⟩]) (
  .seq (.drawn [0, 1, 2, 3, 4, 5, 6, 7, 8, 9] [0, 1, 3, 0, 8, 24, 56, 127, 255, 511] [.m 21 0,⟨some 22, .nilck (.t 21), none⟩,⟨some 23, .load 2 false 1 (.t 22), none⟩,.m 24 0,⟨some 25, .nilck (.t 24), none⟩,⟨some 26, .load 2 false 1 (.t 25), none⟩,⟨some 27, .bin .shl (.t 26) (.c (.int .u64 17)), none⟩,⟨some 28, .bin .xor (.t 23) (.t 27), none⟩,⟨some 29, .nilck (.t 21), none⟩,⟨none, .store 1 (.t 29) (.t 28), none⟩]) (
  .seq (.region [.m 30 0,⟨some 31, .nilck (.t 30), none⟩,⟨some 32, .load 2 false 1 (.t 31), none⟩,.m 2 32]) (
  .ret)))))
def R.slices_xorshift_Next : List ARes := [.t 2]
set_option maxRecDepth 100000 in
theorem K.slices_xorshift_Next : ckFun Try.prog Try.f236 C.slices_xorshift_Next R.slices_xorshift_Next = true := by kernel_rfl
def C.slices_nextPowerOfTwo : ACode :=
  .seq (.region [⟨some 2, .move false (.c (.int .u64 0)), none⟩]) (
  .seq (.region [.m 3 0,⟨some 4, .conv .u64 (.t 3), none⟩,⟨some 5, .call true F.bits_Len [(.t 4)], none⟩,⟨some 6, .bin .shl (.c (.int .u64 1)) (.t 5), none⟩,.m 2 6]) (
  .ret))
def R.slices_nextPowerOfTwo : List ARes := [.t 2]
set_option maxRecDepth 100000 in
theorem K.slices_nextPowerOfTwo : ckFun Try.prog Try.f235 C.slices_nextPowerOfTwo R.slices_nextPowerOfTwo = true := by kernel_rfl
def C.slices_breakPatternsCmpFunc_Cell : ACode :=
  .seq (.region [.m 13 2,.m 14 1,⟨some 15, .bin .sub (.t 13) (.t 14), none⟩,.m 8 15]) (
  .seq (.region [.m 16 8,⟨some 17, .bin .geq (.t 16) (.c (.int .i64 8)), none⟩]) (
  .cond (.t 17) (.seq (.region [.m 18 8,⟨some 19, .conv .u64 (.t 18), none⟩,⟨some 9, .alloc false [(.int .u64 0)], none⟩,⟨none, .store 1 (.t 9) (.t 19), none⟩]) (
  .seq (.prom 9 (.region [.m 20 8,⟨some 21, .call true F.slices_nextPowerOfTwo [(.t 20)], none⟩,.m 10 21])) (
  .seq (.region [.m 22 1,.m 23 8,⟨some 24, .bin .quo (.t 23) (.c (.int .i64 4)), none⟩,⟨some 25, .bin .mul (.t 24) (.c (.int .i64 2)), none⟩,⟨some 26, .bin .add (.t 22) (.t 25), none⟩,⟨some 27, .bin .sub (.t 26) (.c (.int .i64 1)), none⟩,.m 11 27]) (
  .block 0 (.loop (.seq (.seq (.region [.m 28 11,.m 29 1,.m 30 8,⟨some 31, .bin .quo (.t 30) (.c (.int .i64 4)), none⟩,⟨some 32, .bin .mul (.t 31) (.c (.int .i64 2)), none⟩,⟨some 33, .bin .add (.t 29) (.t 32), none⟩,⟨some 34, .bin .add (.t 33) (.c (.int .i64 1)), none⟩,⟨some 35, .bin .leq (.t 28) (.t 34), none⟩]) (
  .cond (.t 35) (.skip) (.exit 0))) (
  .seq (.block 1 (.seq (.region [⟨some 38, .call true F.slices_xorshift_Next [(.t 9)], none⟩,.m 39 10,⟨some 40, .bin .sub (.t 39) (.c (.int .u64 1)), none⟩,⟨some 41, .bin .and (.t 38) (.t 40), none⟩,⟨some 42, .conv .i64 (.t 41), none⟩,.m 12 42]) (
  .seq (.seq (.region [.m 43 12,.m 44 8,⟨some 45, .bin .geq (.t 43) (.t 44), none⟩]) (
  .cond (.t 45) (.region [.m 46 12,.m 47 8,⟨some 48, .bin .sub (.t 46) (.t 47), none⟩,.m 12 48]) (.skip))) (
  .drawn [0, 1, 2, 3, 4, 5, 6, 7, 8, 9, 10, 11, 12, 13, 14, 15, 16, 17, 18, 19] [0, 0, 0, 0, 0, 24, 0, 0, 0, 384, 960, 1984, 0, 0, 12288, 28672, 65475, 131011, 262143, 524287] [.m 49 0,.m 50 11,.m 51 0,.m 52 1,.m 53 12,⟨some 54, .bin .add (.t 52) (.t 53), none⟩,.m 55 0,.m 56 1,.m 57 12,⟨some 58, .bin .add (.t 56) (.t 57), none⟩,⟨some 59, .iaddr 2 (.t 55) (.t 58), none⟩,⟨some 60, .load 2 true 2 (.t 59), none⟩,.m 61 0,.m 62 11,⟨some 63, .iaddr 2 (.t 61) (.t 62), none⟩,⟨some 64, .load 2 true 2 (.t 63), none⟩,⟨some 65, .iaddr 2 (.t 49) (.t 50), none⟩,⟨none, .store 2 (.t 65) (.t 60), none⟩,⟨some 66, .iaddr 2 (.t 51) (.t 54), none⟩,⟨none, .store 2 (.t 66) (.t 64), none⟩])))) (
  .region [.m 36 11,⟨some 37, .bin .add (.t 36) (.c (.int .i64 1)), none⟩,.m 11 37])))))))) (.skip)))
def R.slices_breakPatternsCmpFunc_Cell : List ARes := []
set_option maxRecDepth 100000 in
theorem K.slices_breakPatternsCmpFunc_Cell : ckFun Try.prog Try.f221 C.slices_breakPatternsCmpFunc_Cell R.slices_breakPatternsCmpFunc_Cell = true := by kernel_rfl
def C.slices_partialInsertionSortCmpFunc_Cell : ACode :=
  .seq (.region [⟨some 8, .move false (.c (.bool false)), none⟩]) (
  .seq (.region [.m 13 1,⟨some 14, .bin .add (.t 13) (.c (.int .i64 1)), none⟩,.m 9 14]) (
  .seq (.seq (.region [⟨some 10, .move false (.c (.int .i64 0)), none⟩]) (
  .block 0 (.loop (.seq (.seq (.region [.m 15 10,⟨some 16, .bin .lss (.t 15) (.c (.int .i64 5)), none⟩]) (
  .cond (.t 16) (.skip) (.exit 0))) (
  .seq (.block 1 (.seq (.block 2 (.loop (.seq (.seq (.drawn [0, 1, 2, 3, 4, 5, 6, 7, 8, 9, 10, 11, 12, 13, 14, 15, 16, 17] [0, 0, 3, 7, 15, 15, 15, 111, 239, 15, 15, 1039, 3599, 7695, 16383, 32767, 65535, 131071] [.m 19 9,.m 20 2,⟨some 21, .bin .lss (.t 19) (.t 20), none⟩,.m 22 21,⟨some 23, .move false (.t 3), (some (22, true))⟩,⟨some 24, .move false (.t 0), (some (22, true))⟩,⟨some 25, .move false (.t 9), (some (22, true))⟩,⟨some 26, .iaddr 2 (.t 24) (.t 25), (some (22, true))⟩,⟨some 27, .load 2 true 2 (.t 26), (some (22, true))⟩,⟨some 28, .move false (.t 0), (some (22, true))⟩,⟨some 29, .move false (.t 9), (some (22, true))⟩,⟨some 30, .bin .sub (.t 29) (.c (.int .i64 1)), (some (22, true))⟩,⟨some 31, .iaddr 2 (.t 28) (.t 30), (some (22, true))⟩,⟨some 32, .load 2 true 2 (.t 31), (some (22, true))⟩,⟨some 33, .hop (.callvq (.t 23) [(.t 27), (.t 32)]), (some (22, true))⟩,⟨some 34, .bin .lss (.t 33) (.c (.int .i64 0)), (some (22, true))⟩,⟨some 35, .un .not (.t 34), (some (22, true))⟩,⟨some 36, .pick (.t 22) (.t 35) (.c (.bool false)), none⟩]) (
  .cond (.t 36) (.skip) (.exit 2))) (
  .block 3 (.region [.m 37 9,⟨some 38, .bin .add (.t 37) (.c (.int .i64 1)), none⟩,.m 9 38]))))) (
  .seq (.seq (.region [.m 39 9,.m 40 2,⟨some 41, .bin .eql (.t 39) (.t 40), none⟩]) (
  .cond (.t 41) (.seq (.region [⟨some 8, .move false (.c (.bool true)), none⟩]) (
  .ret)) (.skip))) (
  .seq (.seq (.region [.m 42 2,.m 43 1,⟨some 44, .bin .sub (.t 42) (.t 43), none⟩,⟨some 45, .bin .lss (.t 44) (.c (.int .i64 50)), none⟩]) (
  .cond (.t 45) (.seq (.region [⟨some 8, .move false (.c (.bool false)), none⟩]) (
  .ret)) (.skip))) (
  .seq (.drawn [0, 1, 2, 3, 4, 5, 6, 7, 8, 9, 10, 11, 12, 13, 14, 15, 16, 17] [0, 0, 0, 0, 8, 0, 0, 64, 224, 480, 0, 0, 3072, 7168, 16355, 32739, 65535, 131071] [.m 46 0,.m 47 9,.m 48 0,.m 49 9,⟨some 50, .bin .sub (.t 49) (.c (.int .i64 1)), none⟩,.m 51 0,.m 52 9,⟨some 53, .bin .sub (.t 52) (.c (.int .i64 1)), none⟩,⟨some 54, .iaddr 2 (.t 51) (.t 53), none⟩,⟨some 55, .load 2 true 2 (.t 54), none⟩,.m 56 0,.m 57 9,⟨some 58, .iaddr 2 (.t 56) (.t 57), none⟩,⟨some 59, .load 2 true 2 (.t 58), none⟩,⟨some 60, .iaddr 2 (.t 46) (.t 47), none⟩,⟨none, .store 2 (.t 60) (.t 55), none⟩,⟨some 61, .iaddr 2 (.t 48) (.t 50), none⟩,⟨none, .store 2 (.t 61) (.t 59), none⟩]) (
  .seq (.seq (.region [.m 62 9,.m 63 1,⟨some 64, .bin .sub (.t 62) (.t 63), none⟩,⟨some 65, .bin .geq (.t 64) (.c (.int .i64 2)), none⟩]) (
  .cond (.t 65) (.seq (.region [.m 66 9,⟨some 67, .bin .sub (.t 66) (.c (.int .i64 1)), none⟩,.m 11 67]) (
  .block 4 (.loop (.seq (.seq (.region [.m 68 11,⟨some 69, .bin .geq (.t 68) (.c (.int .i64 1)), none⟩]) (
  .cond (.t 69) (.skip) (.exit 4))) (
  .seq (.block 5 (.seq (.seq (.drawn [0, 1, 2, 3, 4, 5, 6, 7, 8, 9, 10, 11, 12] [0, 0, 0, 6, 14, 0, 0, 64, 224, 480, 1023, 2047, 4095] [.m 72 3,.m 73 0,.m 74 11,⟨some 75, .iaddr 2 (.t 73) (.t 74), none⟩,⟨some 76, .load 2 true 2 (.t 75), none⟩,.m 77 0,.m 78 11,⟨some 79, .bin .sub (.t 78) (.c (.int .i64 1)), none⟩,⟨some 80, .iaddr 2 (.t 77) (.t 79), none⟩,⟨some 81, .load 2 true 2 (.t 80), none⟩,⟨some 82, .hop (.callvq (.t 72) [(.t 76), (.t 81)]), none⟩,⟨some 83, .bin .lss (.t 82) (.c (.int .i64 0)), none⟩,⟨some 84, .un .not (.t 83), none⟩]) (
  .cond (.t 84) (.exit 4) (.skip))) (
  .drawn [0, 1, 2, 3, 4, 5, 6, 7, 8, 9, 10, 11, 12, 13, 14, 15, 16, 17] [0, 0, 0, 0, 8, 0, 0, 64, 224, 480, 0, 0, 3072, 7168, 16355, 32739, 65535, 131071] [.m 85 0,.m 86 11,.m 87 0,.m 88 11,⟨some 89, .bin .sub (.t 88) (.c (.int .i64 1)), none⟩,.m 90 0,.m 91 11,⟨some 92, .bin .sub (.t 91) (.c (.int .i64 1)), none⟩,⟨some 93, .iaddr 2 (.t 90) (.t 92), none⟩,⟨some 94, .load 2 true 2 (.t 93), none⟩,.m 95 0,.m 96 11,⟨some 97, .iaddr 2 (.t 95) (.t 96), none⟩,⟨some 98, .load 2 true 2 (.t 97), none⟩,⟨some 99, .iaddr 2 (.t 85) (.t 86), none⟩,⟨none, .store 2 (.t 99) (.t 94), none⟩,⟨some 100, .iaddr 2 (.t 87) (.t 89), none⟩,⟨none, .store 2 (.t 100) (.t 98), none⟩]))) (
  .region [.m 70 11,⟨some 71, .bin .sub (.t 70) (.c (.int .i64 1)), none⟩,.m 11 71])))))) (.skip))) (
  .seq (.region [.m 101 2,.m 102 9,⟨some 103, .bin .sub (.t 101) (.t 102), none⟩,⟨some 104, .bin .geq (.t 103) (.c (.int .i64 2)), none⟩]) (
  .cond (.t 104) (.seq (.region [.m 105 9,⟨some 106, .bin .add (.t 105) (.c (.int .i64 1)), none⟩,.m 12 106]) (
  .block 6 (.loop (.seq (.seq (.region [.m 107 12,.m 108 2,⟨some 109, .bin .lss (.t 107) (.t 108), none⟩]) (
  .cond (.t 109) (.skip) (.exit 6))) (
  .seq (.block 7 (.seq (.seq (.drawn [0, 1, 2, 3, 4, 5, 6, 7, 8, 9, 10, 11, 12] [0, 0, 0, 6, 14, 0, 0, 64, 224, 480, 1023, 2047, 4095] [.m 112 3,.m 113 0,.m 114 12,⟨some 115, .iaddr 2 (.t 113) (.t 114), none⟩,⟨some 116, .load 2 true 2 (.t 115), none⟩,.m 117 0,.m 118 12,⟨some 119, .bin .sub (.t 118) (.c (.int .i64 1)), none⟩,⟨some 120, .iaddr 2 (.t 117) (.t 119), none⟩,⟨some 121, .load 2 true 2 (.t 120), none⟩,⟨some 122, .hop (.callvq (.t 112) [(.t 116), (.t 121)]), none⟩,⟨some 123, .bin .lss (.t 122) (.c (.int .i64 0)), none⟩,⟨some 124, .un .not (.t 123), none⟩]) (
  .cond (.t 124) (.exit 6) (.skip))) (
  .drawn [0, 1, 2, 3, 4, 5, 6, 7, 8, 9, 10, 11, 12, 13, 14, 15, 16, 17] [0, 0, 0, 0, 8, 0, 0, 64, 224, 480, 0, 0, 3072, 7168, 16355, 32739, 65535, 131071] [.m 125 0,.m 126 12,.m 127 0,.m 128 12,⟨some 129, .bin .sub (.t 128) (.c (.int .i64 1)), none⟩,.m 130 0,.m 131 12,⟨some 132, .bin .sub (.t 131) (.c (.int .i64 1)), none⟩,⟨some 133, .iaddr 2 (.t 130) (.t 132), none⟩,⟨some 134, .load 2 true 2 (.t 133), none⟩,.m 135 0,.m 136 12,⟨some 137, .iaddr 2 (.t 135) (.t 136), none⟩,⟨some 138, .load 2 true 2 (.t 137), none⟩,⟨some 139, .iaddr 2 (.t 125) (.t 126), none⟩,⟨none, .store 2 (.t 139) (.t 134), none⟩,⟨some 140, .iaddr 2 (.t 127) (.t 129), none⟩,⟨none, .store 2 (.t 140) (.t 138), none⟩]))) (
  .region [.m 110 12,⟨some 111, .bin .add (.t 110) (.c (.int .i64 1)), none⟩,.m 12 111])))))) (.skip))))))))) (
  .region [.m 17 10,⟨some 18, .bin .add (.t 17) (.c (.int .i64 1)), none⟩,.m 10 18])))))) (
  .seq (.region [⟨some 8, .move false (.c (.bool false)), none⟩]) (
  .ret))))
def R.slices_partialInsertionSortCmpFunc_Cell : List ARes := [.t 8]
set_option maxRecDepth 100000 in
theorem K.slices_partialInsertionSortCmpFunc_Cell : ckFun Try.prog Try.f224 C.slices_partialInsertionSortCmpFunc_Cell R.slices_partialInsertionSortCmpFunc_Cell = true := by kernel_rfl
def C.slices_partitionEqualCmpFunc_Cell : ACode :=
  .seq (.region [⟨some 10, .move false (.c (.int .i64 0)), none⟩]) (
  .seq (.drawn [0, 1, 2, 3, 4, 5, 6, 7, 8, 9, 10, 11, 12, 13, 14, 15] [0, 0, 0, 0, 0, 0, 48, 112, 0, 0, 768, 1792, 4083, 8179, 16383, 32767] [.m 13 0,.m 14 1,.m 15 0,.m 16 3,.m 17 0,.m 18 3,⟨some 19, .iaddr 2 (.t 17) (.t 18), none⟩,⟨some 20, .load 2 true 2 (.t 19), none⟩,.m 21 0,.m 22 1,⟨some 23, .iaddr 2 (.t 21) (.t 22), none⟩,⟨some 24, .load 2 true 2 (.t 23), none⟩,⟨some 25, .iaddr 2 (.t 13) (.t 14), none⟩,⟨none, .store 2 (.t 25) (.t 20), none⟩,⟨some 26, .iaddr 2 (.t 15) (.t 16), none⟩,⟨none, .store 2 (.t 26) (.t 24), none⟩]) (
  .seq (.region [.m 27 1,⟨some 28, .bin .add (.t 27) (.c (.int .i64 1)), none⟩,.m 29 2,⟨some 30, .bin .sub (.t 29) (.c (.int .i64 1)), none⟩,.m 11 28,.m 12 30]) (
  .seq (.block 0 (.loop (.block 1 (.seq (.block 2 (.loop (.seq (.seq (.drawn [0, 1, 2, 3, 4, 5, 6, 7, 8, 9, 10, 11, 12, 13, 14, 15, 16] [0, 0, 3, 7, 15, 15, 15, 111, 239, 15, 15, 1551, 3599, 8191, 16383, 32767, 65535] [.m 31 11,.m 32 12,⟨some 33, .bin .leq (.t 31) (.t 32), none⟩,.m 34 33,⟨some 35, .move false (.t 4), (some (34, true))⟩,⟨some 36, .move false (.t 0), (some (34, true))⟩,⟨some 37, .move false (.t 1), (some (34, true))⟩,⟨some 38, .iaddr 2 (.t 36) (.t 37), (some (34, true))⟩,⟨some 39, .load 2 true 2 (.t 38), (some (34, true))⟩,⟨some 40, .move false (.t 0), (some (34, true))⟩,⟨some 41, .move false (.t 11), (some (34, true))⟩,⟨some 42, .iaddr 2 (.t 40) (.t 41), (some (34, true))⟩,⟨some 43, .load 2 true 2 (.t 42), (some (34, true))⟩,⟨some 44, .hop (.callvq (.t 35) [(.t 39), (.t 43)]), (some (34, true))⟩,⟨some 45, .bin .lss (.t 44) (.c (.int .i64 0)), (some (34, true))⟩,⟨some 46, .un .not (.t 45), (some (34, true))⟩,⟨some 47, .pick (.t 34) (.t 46) (.c (.bool false)), none⟩]) (
  .cond (.t 47) (.skip) (.exit 2))) (
  .block 3 (.region [.m 48 11,⟨some 49, .bin .add (.t 48) (.c (.int .i64 1)), none⟩,.m 11 49]))))) (
  .seq (.block 4 (.loop (.seq (.seq (.drawn [0, 1, 2, 3, 4, 5, 6, 7, 8, 9, 10, 11, 12, 13, 14, 15] [0, 0, 3, 7, 15, 15, 15, 111, 239, 15, 15, 1551, 3599, 8191, 16383, 32767] [.m 50 11,.m 51 12,⟨some 52, .bin .leq (.t 50) (.t 51), none⟩,.m 53 52,⟨some 54, .move false (.t 4), (some (53, true))⟩,⟨some 55, .move false (.t 0), (some (53, true))⟩,⟨some 56, .move false (.t 1), (some (53, true))⟩,⟨some 57, .iaddr 2 (.t 55) (.t 56), (some (53, true))⟩,⟨some 58, .load 2 true 2 (.t 57), (some (53, true))⟩,⟨some 59, .move false (.t 0), (some (53, true))⟩,⟨some 60, .move false (.t 12), (some (53, true))⟩,⟨some 61, .iaddr 2 (.t 59) (.t 60), (some (53, true))⟩,⟨some 62, .load 2 true 2 (.t 61), (some (53, true))⟩,⟨some 63, .hop (.callvq (.t 54) [(.t 58), (.t 62)]), (some (53, true))⟩,⟨some 64, .bin .lss (.t 63) (.c (.int .i64 0)), (some (53, true))⟩,⟨some 65, .pick (.t 53) (.t 64) (.c (.bool false)), none⟩]) (
  .cond (.t 65) (.skip) (.exit 4))) (
  .block 5 (.region [.m 66 12,⟨some 67, .bin .sub (.t 66) (.c (.int .i64 1)), none⟩,.m 12 67]))))) (
  .seq (.seq (.region [.m 68 11,.m 69 12,⟨some 70, .bin .gtr (.t 68) (.t 69), none⟩]) (
  .cond (.t 70) (.exit 0) (.skip))) (
  .seq (.drawn [0, 1, 2, 3, 4, 5, 6, 7, 8, 9, 10, 11, 12, 13, 14, 15] [0, 0, 0, 0, 0, 0, 48, 112, 0, 0, 768, 1792, 4083, 8179, 16383, 32767] [.m 71 0,.m 72 11,.m 73 0,.m 74 12,.m 75 0,.m 76 12,⟨some 77, .iaddr 2 (.t 75) (.t 76), none⟩,⟨some 78, .load 2 true 2 (.t 77), none⟩,.m 79 0,.m 80 11,⟨some 81, .iaddr 2 (.t 79) (.t 80), none⟩,⟨some 82, .load 2 true 2 (.t 81), none⟩,⟨some 83, .iaddr 2 (.t 71) (.t 72), none⟩,⟨none, .store 2 (.t 83) (.t 78), none⟩,⟨some 84, .iaddr 2 (.t 73) (.t 74), none⟩,⟨none, .store 2 (.t 84) (.t 82), none⟩]) (
  .seq (.region [.m 85 11,⟨some 86, .bin .add (.t 85) (.c (.int .i64 1)), none⟩,.m 11 86]) (
  .region [.m 87 12,⟨some 88, .bin .sub (.t 87) (.c (.int .i64 1)), none⟩,.m 12 88]))))))))) (
  .seq (.region [.m 89 11,.m 10 89]) (
  .ret)))))
def R.slices_partitionEqualCmpFunc_Cell : List ARes := [.t 10]
set_option maxRecDepth 100000 in
theorem K.slices_partitionEqualCmpFunc_Cell : ckFun Try.prog Try.f225 C.slices_partitionEqualCmpFunc_Cell R.slices_partitionEqualCmpFunc_Cell = true := by kernel_rfl
def C.slices_partitionCmpFunc_Cell : ACode :=
  .seq (.region [⟨some 10, .move false (.c (.int .i64 0)), none⟩,⟨some 11, .move false (.c (.bool false)), none⟩]) (
  .seq (.drawn [0, 1, 2, 3, 4, 5, 6, 7, 8, 9, 10, 11, 12, 13, 14, 15] [0, 0, 0, 0, 0, 0, 48, 112, 0, 0, 768, 1792, 4083, 8179, 16383, 32767] [.m 14 0,.m 15 1,.m 16 0,.m 17 3,.m 18 0,.m 19 3,⟨some 20, .iaddr 2 (.t 18) (.t 19), none⟩,⟨some 21, .load 2 true 2 (.t 20), none⟩,.m 22 0,.m 23 1,⟨some 24, .iaddr 2 (.t 22) (.t 23), none⟩,⟨some 25, .load 2 true 2 (.t 24), none⟩,⟨some 26, .iaddr 2 (.t 14) (.t 15), none⟩,⟨none, .store 2 (.t 26) (.t 21), none⟩,⟨some 27, .iaddr 2 (.t 16) (.t 17), none⟩,⟨none, .store 2 (.t 27) (.t 25), none⟩]) (
  .seq (.region [.m 28 1,⟨some 29, .bin .add (.t 28) (.c (.int .i64 1)), none⟩,.m 30 2,⟨some 31, .bin .sub (.t 30) (.c (.int .i64 1)), none⟩,.m 12 29,.m 13 31]) (
  .seq (.block 0 (.loop (.seq (.seq (.drawn [0, 1, 2, 3, 4, 5, 6, 7, 8, 9, 10, 11, 12, 13, 14, 15] [0, 0, 3, 7, 15, 15, 15, 111, 239, 15, 15, 1551, 3599, 8191, 16383, 32767] [.m 32 12,.m 33 13,⟨some 34, .bin .leq (.t 32) (.t 33), none⟩,.m 35 34,⟨some 36, .move false (.t 4), (some (35, true))⟩,⟨some 37, .move false (.t 0), (some (35, true))⟩,⟨some 38, .move false (.t 12), (some (35, true))⟩,⟨some 39, .iaddr 2 (.t 37) (.t 38), (some (35, true))⟩,⟨some 40, .load 2 true 2 (.t 39), (some (35, true))⟩,⟨some 41, .move false (.t 0), (some (35, true))⟩,⟨some 42, .move false (.t 1), (some (35, true))⟩,⟨some 43, .iaddr 2 (.t 41) (.t 42), (some (35, true))⟩,⟨some 44, .load 2 true 2 (.t 43), (some (35, true))⟩,⟨some 45, .hop (.callvq (.t 36) [(.t 40), (.t 44)]), (some (35, true))⟩,⟨some 46, .bin .lss (.t 45) (.c (.int .i64 0)), (some (35, true))⟩,⟨some 47, .pick (.t 35) (.t 46) (.c (.bool false)), none⟩]) (
  .cond (.t 47) (.skip) (.exit 0))) (
  .block 1 (.region [.m 48 12,⟨some 49, .bin .add (.t 48) (.c (.int .i64 1)), none⟩,.m 12 49]))))) (
  .seq (.block 2 (.loop (.seq (.seq (.drawn [0, 1, 2, 3, 4, 5, 6, 7, 8, 9, 10, 11, 12, 13, 14, 15, 16] [0, 0, 3, 7, 15, 15, 15, 111, 239, 15, 15, 1551, 3599, 8191, 16383, 32767, 65535] [.m 50 12,.m 51 13,⟨some 52, .bin .leq (.t 50) (.t 51), none⟩,.m 53 52,⟨some 54, .move false (.t 4), (some (53, true))⟩,⟨some 55, .move false (.t 0), (some (53, true))⟩,⟨some 56, .move false (.t 13), (some (53, true))⟩,⟨some 57, .iaddr 2 (.t 55) (.t 56), (some (53, true))⟩,⟨some 58, .load 2 true 2 (.t 57), (some (53, true))⟩,⟨some 59, .move false (.t 0), (some (53, true))⟩,⟨some 60, .move false (.t 1), (some (53, true))⟩,⟨some 61, .iaddr 2 (.t 59) (.t 60), (some (53, true))⟩,⟨some 62, .load 2 true 2 (.t 61), (some (53, true))⟩,⟨some 63, .hop (.callvq (.t 54) [(.t 58), (.t 62)]), (some (53, true))⟩,⟨some 64, .bin .lss (.t 63) (.c (.int .i64 0)), (some (53, true))⟩,⟨some 65, .un .not (.t 64), (some (53, true))⟩,⟨some 66, .pick (.t 53) (.t 65) (.c (.bool false)), none⟩]) (
  .cond (.t 66) (.skip) (.exit 2))) (
  .block 3 (.region [.m 67 13,⟨some 68, .bin .sub (.t 67) (.c (.int .i64 1)), none⟩,.m 13 68]))))) (
  .seq (.seq (.region [.m 69 12,.m 70 13,⟨some 71, .bin .gtr (.t 69) (.t 70), none⟩]) (
  .cond (.t 71) (.seq (.drawn [0, 1, 2, 3, 4, 5, 6, 7, 8, 9, 10, 11, 12, 13, 14, 15] [0, 0, 0, 0, 0, 0, 48, 112, 0, 0, 768, 1792, 4083, 8179, 16383, 32767] [.m 72 0,.m 73 13,.m 74 0,.m 75 1,.m 76 0,.m 77 1,⟨some 78, .iaddr 2 (.t 76) (.t 77), none⟩,⟨some 79, .load 2 true 2 (.t 78), none⟩,.m 80 0,.m 81 13,⟨some 82, .iaddr 2 (.t 80) (.t 81), none⟩,⟨some 83, .load 2 true 2 (.t 82), none⟩,⟨some 84, .iaddr 2 (.t 72) (.t 73), none⟩,⟨none, .store 2 (.t 84) (.t 79), none⟩,⟨some 85, .iaddr 2 (.t 74) (.t 75), none⟩,⟨none, .store 2 (.t 85) (.t 83), none⟩]) (
  .seq (.region [.m 86 13,.m 10 86,⟨some 11, .move false (.c (.bool true)), none⟩]) (
  .ret))) (.skip))) (
  .seq (.drawn [0, 1, 2, 3, 4, 5, 6, 7, 8, 9, 10, 11, 12, 13, 14, 15] [0, 0, 0, 0, 0, 0, 48, 112, 0, 0, 768, 1792, 4083, 8179, 16383, 32767] [.m 87 0,.m 88 12,.m 89 0,.m 90 13,.m 91 0,.m 92 13,⟨some 93, .iaddr 2 (.t 91) (.t 92), none⟩,⟨some 94, .load 2 true 2 (.t 93), none⟩,.m 95 0,.m 96 12,⟨some 97, .iaddr 2 (.t 95) (.t 96), none⟩,⟨some 98, .load 2 true 2 (.t 97), none⟩,⟨some 99, .iaddr 2 (.t 87) (.t 88), none⟩,⟨none, .store 2 (.t 99) (.t 94), none⟩,⟨some 100, .iaddr 2 (.t 89) (.t 90), none⟩,⟨none, .store 2 (.t 100) (.t 98), none⟩]) (
  .seq (.region [.m 101 12,⟨some 102, .bin .add (.t 101) (.c (.int .i64 1)), none⟩,.m 12 102]) (
  .seq (.region [.m 103 13,⟨some 104, .bin .sub (.t 103) (.c (.int .i64 1)), none⟩,.m 13 104]) (
  .seq (.block 4 (.loop (.block 5 (.seq (.block 6 (.loop (.seq (.seq (.drawn [0, 1, 2, 3, 4, 5, 6, 7, 8, 9, 10, 11, 12, 13, 14, 15] [0, 0, 3, 7, 15, 15, 15, 111, 239, 15, 15, 1551, 3599, 8191, 16383, 32767] [.m 105 12,.m 106 13,⟨some 107, .bin .leq (.t 105) (.t 106), none⟩,.m 108 107,⟨some 109, .move false (.t 4), (some (108, true))⟩,⟨some 110, .move false (.t 0), (some (108, true))⟩,⟨some 111, .move false (.t 12), (some (108, true))⟩,⟨some 112, .iaddr 2 (.t 110) (.t 111), (some (108, true))⟩,⟨some 113, .load 2 true 2 (.t 112), (some (108, true))⟩,⟨some 114, .move false (.t 0), (some (108, true))⟩,⟨some 115, .move false (.t 1), (some (108, true))⟩,⟨some 116, .iaddr 2 (.t 114) (.t 115), (some (108, true))⟩,⟨some 117, .load 2 true 2 (.t 116), (some (108, true))⟩,⟨some 118, .hop (.callvq (.t 109) [(.t 113), (.t 117)]), (some (108, true))⟩,⟨some 119, .bin .lss (.t 118) (.c (.int .i64 0)), (some (108, true))⟩,⟨some 120, .pick (.t 108) (.t 119) (.c (.bool false)), none⟩]) (
  .cond (.t 120) (.skip) (.exit 6))) (
  .block 7 (.region [.m 121 12,⟨some 122, .bin .add (.t 121) (.c (.int .i64 1)), none⟩,.m 12 122]))))) (
  .seq (.block 8 (.loop (.seq (.seq (.drawn [0, 1, 2, 3, 4, 5, 6, 7, 8, 9, 10, 11, 12, 13, 14, 15, 16] [0, 0, 3, 7, 15, 15, 15, 111, 239, 15, 15, 1551, 3599, 8191, 16383, 32767, 65535] [.m 123 12,.m 124 13,⟨some 125, .bin .leq (.t 123) (.t 124), none⟩,.m 126 125,⟨some 127, .move false (.t 4), (some (126, true))⟩,⟨some 128, .move false (.t 0), (some (126, true))⟩,⟨some 129, .move false (.t 13), (some (126, true))⟩,⟨some 130, .iaddr 2 (.t 128) (.t 129), (some (126, true))⟩,⟨some 131, .load 2 true 2 (.t 130), (some (126, true))⟩,⟨some 132, .move false (.t 0), (some (126, true))⟩,⟨some 133, .move false (.t 1), (some (126, true))⟩,⟨some 134, .iaddr 2 (.t 132) (.t 133), (some (126, true))⟩,⟨some 135, .load 2 true 2 (.t 134), (some (126, true))⟩,⟨some 136, .hop (.callvq (.t 127) [(.t 131), (.t 135)]), (some (126, true))⟩,⟨some 137, .bin .lss (.t 136) (.c (.int .i64 0)), (some (126, true))⟩,⟨some 138, .un .not (.t 137), (some (126, true))⟩,⟨some 139, .pick (.t 126) (.t 138) (.c (.bool false)), none⟩]) (
  .cond (.t 139) (.skip) (.exit 8))) (
  .block 9 (.region [.m 140 13,⟨some 141, .bin .sub (.t 140) (.c (.int .i64 1)), none⟩,.m 13 141]))))) (
  .seq (.seq (.region [.m 142 12,.m 143 13,⟨some 144, .bin .gtr (.t 142) (.t 143), none⟩]) (
  .cond (.t 144) (.exit 4) (.skip))) (
  .seq (.drawn [0, 1, 2, 3, 4, 5, 6, 7, 8, 9, 10, 11, 12, 13, 14, 15] [0, 0, 0, 0, 0, 0, 48, 112, 0, 0, 768, 1792, 4083, 8179, 16383, 32767] [.m 145 0,.m 146 12,.m 147 0,.m 148 13,.m 149 0,.m 150 13,⟨some 151, .iaddr 2 (.t 149) (.t 150), none⟩,⟨some 152, .load 2 true 2 (.t 151), none⟩,.m 153 0,.m 154 12,⟨some 155, .iaddr 2 (.t 153) (.t 154), none⟩,⟨some 156, .load 2 true 2 (.t 155), none⟩,⟨some 157, .iaddr 2 (.t 145) (.t 146), none⟩,⟨none, .store 2 (.t 157) (.t 152), none⟩,⟨some 158, .iaddr 2 (.t 147) (.t 148), none⟩,⟨none, .store 2 (.t 158) (.t 156), none⟩]) (
  .seq (.region [.m 159 12,⟨some 160, .bin .add (.t 159) (.c (.int .i64 1)), none⟩,.m 12 160]) (
  .region [.m 161 13,⟨some 162, .bin .sub (.t 161) (.c (.int .i64 1)), none⟩,.m 13 162]))))))))) (
  .seq (.drawn [0, 1, 2, 3, 4, 5, 6, 7, 8, 9, 10, 11, 12, 13, 14, 15] [0, 0, 0, 0, 0, 0, 48, 112, 0, 0, 768, 1792, 4083, 8179, 16383, 32767] [.m 163 0,.m 164 13,.m 165 0,.m 166 1,.m 167 0,.m 168 1,⟨some 169, .iaddr 2 (.t 167) (.t 168), none⟩,⟨some 170, .load 2 true 2 (.t 169), none⟩,.m 171 0,.m 172 13,⟨some 173, .iaddr 2 (.t 171) (.t 172), none⟩,⟨some 174, .load 2 true 2 (.t 173), none⟩,⟨some 175, .iaddr 2 (.t 163) (.t 164), none⟩,⟨none, .store 2 (.t 175) (.t 170), none⟩,⟨some 176, .iaddr 2 (.t 165) (.t 166), none⟩,⟨none, .store 2 (.t 176) (.t 174), none⟩]) (
  .seq (.region [.m 177 13,.m 10 177,⟨some 11, .move false (.c (.bool false)), none⟩]) (
  .ret))))))))))))
def R.slices_partitionCmpFunc_Cell : List ARes := [.t 10, .t 11]
set_option maxRecDepth 100000 in
theorem K.slices_partitionCmpFunc_Cell : ckFun Try.prog Try.f226 C.slices_partitionCmpFunc_Cell R.slices_partitionCmpFunc_Cell = true := by kernel_rfl
def C.slices_pdqsortCmpFunc_CellF : ACode :=
  .seq (.region [⟨some 10, .move false (.c (.bool true)), none⟩]) (
  .seq (.region [⟨some 11, .move false (.c (.bool true)), none⟩]) (
  .block 0 (.loop (.block 1 (.seq (.region [.m 21 2,.m 22 1,⟨some 23, .bin .sub (.t 21) (.t 22), none⟩,.m 12 23]) (
  .seq (.seq (.region [.m 24 12,⟨some 25, .bin .leq (.t 24) (.c (.int .i64 12)), none⟩]) (
  .cond (.t 25) (.seq (.region [.m 26 0,.m 27 1,.m 28 2,.m 29 4,⟨some 30, .call true F.slices_insertionSortCmpFunc_Cell [(.t 26), (.t 27), (.t 28), (.t 29)], none⟩]) (
  .ret)) (.skip))) (
  .seq (.seq (.region [.m 31 3,⟨some 32, .bin .eql (.t 31) (.c (.int .i64 0)), none⟩]) (
  .cond (.t 32) (.seq (.region [.m 33 0,.m 34 1,.m 35 2,.m 36 4,⟨some 37, .call true F.slices_heapSortCmpFunc_Cell [(.t 33), (.t 34), (.t 35), (.t 36)], none⟩]) (
  .ret)) (.skip))) (
  .seq (.seq (.region [.m 38 10,⟨some 39, .un .not (.t 38), none⟩]) (
  .cond (.t 39) (.seq (.region [.m 40 0,.m 41 1,.m 42 2,.m 43 4,⟨some 44, .call true F.slices_breakPatternsCmpFunc_Cell [(.t 40), (.t 41), (.t 42), (.t 43)], none⟩]) (
  .region [.m 45 3,⟨some 46, .bin .sub (.t 45) (.c (.int .i64 1)), none⟩,.m 3 46])) (.skip))) (
  .seq (.region [.m 48 0,.m 49 1,.m 50 2,.m 51 4,⟨some 52, .call true F.slices_choosePivotCmpFunc_Cell [(.t 48), (.t 49), (.t 50), (.t 51)], none⟩,.m 47 52,⟨some 53, .ext 0 (.t 47), none⟩,⟨some 54, .ext 1 (.t 47), none⟩,.m 13 53,.m 14 54]) (
  .seq (.seq (.region [.m 55 14,⟨some 56, .bin .eql (.t 55) (.c (.int .i64 2)), none⟩]) (
  .cond (.t 56) (.seq (.region [.m 57 0,.m 58 1,.m 59 2,.m 60 4,⟨some 61, .call true F.slices_reverseRangeCmpFunc_Cell [(.t 57), (.t 58), (.t 59), (.t 60)], none⟩]) (
  .seq (.region [.m 62 2,⟨some 63, .bin .sub (.t 62) (.c (.int .i64 1)), none⟩,.m 64 13,.m 65 1,⟨some 66, .bin .sub (.t 64) (.t 65), none⟩,⟨some 67, .bin .sub (.t 63) (.t 66), none⟩,.m 13 67]) (
  .region [⟨some 14, .move false (.c (.int .i64 1)), none⟩]))) (.skip))) (
  .seq (.seq (.region [.m 68 10,.m 69 68,⟨some 70, .move false (.t 11), (some (69, true))⟩,⟨some 71, .pick (.t 69) (.t 70) (.c (.bool false)), none⟩,.m 72 71,⟨some 73, .move false (.t 14), (some (72, true))⟩,⟨some 74, .bin .eql (.t 73) (.c (.int .i64 1)), (some (72, true))⟩,⟨some 75, .pick (.t 72) (.t 74) (.c (.bool false)), none⟩]) (
  .cond (.t 75) (.seq (.region [.m 76 0,.m 77 1,.m 78 2,.m 79 4,⟨some 80, .call true F.slices_partialInsertionSortCmpFunc_Cell [(.t 76), (.t 77), (.t 78), (.t 79)], none⟩]) (
  .cond (.t 80) (.ret) (.skip))) (.skip))) (
  .seq (.seq (.drawn [0, 1, 2, 3, 4, 5, 6, 7, 8, 9, 10, 11, 12, 13, 14, 15, 16] [0, 1, 3, 7, 7, 7, 39, 119, 247, 7, 7, 1543, 3591, 8191, 16383, 32767, 65535] [.m 81 1,⟨some 82, .bin .gtr (.t 81) (.c (.int .i64 0)), none⟩,.m 83 82,⟨some 84, .move false (.t 4), (some (83, true))⟩,⟨some 85, .move false (.t 0), (some (83, true))⟩,⟨some 86, .move false (.t 1), (some (83, true))⟩,⟨some 87, .bin .sub (.t 86) (.c (.int .i64 1)), (some (83, true))⟩,⟨some 88, .iaddr 2 (.t 85) (.t 87), (some (83, true))⟩,⟨some 89, .load 2 true 2 (.t 88), (some (83, true))⟩,⟨some 90, .move false (.t 0), (some (83, true))⟩,⟨some 91, .move false (.t 13), (some (83, true))⟩,⟨some 92, .iaddr 2 (.t 90) (.t 91), (some (83, true))⟩,⟨some 93, .load 2 true 2 (.t 92), (some (83, true))⟩,⟨some 94, .hop (.callvq (.t 84) [(.t 89), (.t 93)]), (some (83, true))⟩,⟨some 95, .bin .lss (.t 94) (.c (.int .i64 0)), (some (83, true))⟩,⟨some 96, .un .not (.t 95), (some (83, true))⟩,⟨some 97, .pick (.t 83) (.t 96) (.c (.bool false)), none⟩]) (
  .cond (.t 97) (.seq (.region [.m 98 0,.m 99 1,.m 100 2,.m 101 13,.m 102 4,⟨some 103, .call true F.slices_partitionEqualCmpFunc_Cell [(.t 98), (.t 99), (.t 100), (.t 101), (.t 102)], none⟩,.m 15 103]) (
  .seq (.region [.m 104 15,.m 1 104]) (
  .exit 1))) (.skip))) (
  .seq (.region [.m 106 0,.m 107 1,.m 108 2,.m 109 13,.m 110 4,⟨some 111, .call true F.slices_partitionCmpFunc_Cell [(.t 106), (.t 107), (.t 108), (.t 109), (.t 110)], none⟩,.m 105 111,⟨some 112, .ext 0 (.t 105), none⟩,⟨some 113, .ext 1 (.t 105), none⟩,.m 16 112,.m 17 113]) (
  .seq (.region [.m 114 17,.m 11 114]) (
  .seq (.region [.m 115 16,.m 116 1,⟨some 117, .bin .sub (.t 115) (.t 116), none⟩,.m 118 2,.m 119 16,⟨some 120, .bin .sub (.t 118) (.t 119), none⟩,.m 18 117,.m 19 120]) (
  .seq (.region [.m 121 12,⟨some 122, .bin .quo (.t 121) (.c (.int .i64 8)), none⟩,.m 20 122]) (
  .seq (.region [.m 123 18,.m 124 19,⟨some 125, .bin .lss (.t 123) (.t 124), none⟩]) (
  .cond (.t 125) (.seq (.region [.m 126 18,.m 127 20,⟨some 128, .bin .geq (.t 126) (.t 127), none⟩,.m 10 128]) (
  .seq (.region [.m 129 0,.m 130 1,.m 131 16,.m 132 3,.m 133 4,⟨some 134, .call true F.slices_pdqsortCmpFunc_Cell [(.t 129), (.t 130), (.t 131), (.t 132), (.t 133)], none⟩]) (
  .region [.m 135 16,⟨some 136, .bin .add (.t 135) (.c (.int .i64 1)), none⟩,.m 1 136]))) (.seq (.region [.m 137 19,.m 138 20,⟨some 139, .bin .geq (.t 137) (.t 138), none⟩,.m 10 139]) (
  .seq (.region [.m 140 0,.m 141 16,⟨some 142, .bin .add (.t 141) (.c (.int .i64 1)), none⟩,.m 143 2,.m 144 3,.m 145 4,⟨some 146, .call true F.slices_pdqsortCmpFunc_Cell [(.t 140), (.t 142), (.t 143), (.t 144), (.t 145)], none⟩]) (
  .region [.m 147 16,.m 2 147])))))))))))))))))))))
def R.slices_pdqsortCmpFunc_CellF : List ARes := []
set_option maxRecDepth 100000 in
theorem K.slices_pdqsortCmpFunc_CellF : ckFun Try.prog Try.f203 C.slices_pdqsortCmpFunc_CellF R.slices_pdqsortCmpFunc_CellF = true := by kernel_rfl
end Go.Proofs.Ytpdajkbfemcdlaa
set_option linter.unusedSimpArgs false
set_option linter.unusedVariables false
set_option maxRecDepth 10000
namespace Go.Proofs.Ytpdajkbfemcdlaa
open Go.Ge
theorem aw_cut {P : Program} {a : ACode} {K Pm : AState → Prop} {Q : AExit → AState → Prop} {S : AState} (h : aw (ACalls P) a (AExit.then Pm Q) S) (hk : ∀ S', Pm S' → K S') : aw (ACalls P) a (AExit.then K Q) S :=
  aw_mono (CMono_ACalls P) a (fun e S' h => by cases e <;> first | exact hk _ h | exact h) h
theorem condG_cut {P : Program} {v : AVal} {a b : ACode} {K : AState → Prop} {Q : AExit → AState → Prop} {S : AState} (Pm : AState → Prop) (h : condG (ACalls P) v a b (AExit.then Pm Q) S) (hk : ∀ S', Pm S' → K S') : condG (ACalls P) v a b (AExit.then K Q) S := by
  unfold condG at h ⊢
  cases v <;> first | exact ⟨fun e => aw_cut (h.1 e) hk, fun e => aw_cut (h.2 e) hk⟩ | exact h
theorem aopsG_cut {P : Program} {d : Option Nat} {op : AOp} {want : Bool} {v : AVal} {os : List AO} {c : ACode} {K : AState → Prop} {Q Q' : AExit → AState → Prop} {S : AState} (Pm : AState → Prop)
    (h : aopsG (ACalls P) d op want v os S (AExit.then (aw (ACalls P) c (AExit.then Pm Q)) Q' .normal)) (hk : ∀ S', Pm S' → K S') : aopsG (ACalls P) d op want v os S (AExit.then (aw (ACalls P) c (AExit.then K Q)) Q' .normal) := by
  have key : ∀ os S, aops (ACalls P) os S (AExit.then (aw (ACalls P) c (AExit.then Pm Q)) Q' .normal) → aops (ACalls P) os S (AExit.then (aw (ACalls P) c (AExit.then K Q)) Q' .normal) :=
    fun os S h => aops_mono (CMono_ACalls P) os (fun S' h => aw_cut h hk) h
  unfold aopsG at h ⊢
  split at h
  · exact ⟨fun e => key _ _ (h.1 e), fun e => key _ _ (h.2 e)⟩
  · exact key _ _ h
  · exact h.elim
section
variable {α : Type} {f : α → List AVal} {sz : Nat}
def SlR (f : α → List AVal) (sz : Nat) (h : List HObj) (id : Nat) (w : AVal) (L : List α) : Prop :=
  w = .lst .nil [] ∧ L = [] ∨ ∃ off cap pre rest, w = .ref id off L.length cap ∧ L.length ≤ cap ∧ h[id]? = some (.cells (pre ++ L.flatMap f ++ rest)) ∧ pre.length = off ∧ rest.length = (cap - L.length) * sz
theorem SlR.tail (hf : ∀ a, (f a).length = sz) {h : List HObj} {id off len cap : Nat} {a : α} {L : List α} (hs : SlR f sz h id (.ref id off len cap) (a :: L)) : SlR f sz h id (.ref id (off + sz) (len - 1) (cap - 1)) L ∧ len = L.length + 1 ∧ 1 ≤ cap := by
  rcases hs with ⟨e, _⟩ | ⟨off', cap', pre, rest, e, hc, hh, hpre, hrest⟩
  · cases e
  · cases e
    refine ⟨.inr ⟨off + sz, cap - 1, pre ++ f a, rest, by simp, by simp at hc; omega, ?_, by rw [List.length_append, hpre, hf], ?_⟩, by simp, by simp at hc; omega⟩
    · rw [hh]; simp [List.append_assoc]
    · rw [hrest]; congr 1; simp; omega
theorem SlR.cons {h : List HObj} {id : Nat} {w : AVal} {a : α} {L : List α} (hs : SlR f sz h id w (a :: L)) : ∃ off cap, w = .ref id off (L.length + 1) cap := by
  rcases hs with ⟨_, e⟩ | ⟨off', cap', pre, rest, e, hc, hh, hpre, hrest⟩
  · cases e
  · exact ⟨off', cap', by simpa using e⟩
theorem SlR.cases {h : List HObj} {id : Nat} {w : AVal} {L : List α} (hs : SlR f sz h id w L) : w = .lst .nil [] ∧ L = [] ∨ ∃ off cap, w = .ref id off L.length cap ∧ L.length ≤ cap := by
  rcases hs with hs | ⟨off', cap', pre, rest, e, hc, hh, hpre, hrest⟩
  · exact .inl hs
  · exact .inr ⟨_, _, e, hc⟩
def SlO (f : α → List AVal) (sz : Nat) (h : List HObj) (own : List Nat) (w : AVal) (L : List α) : Prop := ∃ id, SlR f sz h id w L ∧ (w = .lst .nil [] ∨ id ∈ own)
theorem SlO.nil {h : List HObj} {own : List Nat} : SlO f sz h own (.lst .nil []) ([] : List α) := ⟨0, .inl ⟨rfl, rfl⟩, .inl rfl⟩
theorem SlO.cases {h : List HObj} {own : List Nat} {w : AVal} {L : List α} (hs : SlO f sz h own w L) : w = .lst .nil [] ∧ L = [] ∨ ∃ id off cap, w = .ref id off L.length cap ∧ L.length ≤ cap ∧ id ∈ own ∧ SlR f sz h id w L := by
  obtain ⟨id, h1, h2⟩ := hs
  rcases h1.cases with ⟨rfl, h3⟩ | ⟨off, cap, rfl, h3⟩
  · exact .inl ⟨rfl, h3⟩
  · exact .inr ⟨id, off, cap, rfl, h3, h2.elim (fun e => by cases e) (fun h => h), h1⟩
end
end Go.Proofs.Ytpdajkbfemcdlaa
namespace Go.Proofs.Ytpdajkbfemcdlaa
open Go.Ge
def C.slices_Grow_Cell : ACode :=
  .seq (.region [⟨some 4, .move false (.c (.lst .nil [])), none⟩]) (
  .seq (.seq (.region [.m 5 1,⟨some 6, .bin .lss (.t 5) (.c (.int .i64 0)), none⟩]) (
  .cond (.t 6) (.region [⟨some 7, .refuse, none⟩,⟨none, .refuse, none⟩]) (.skip))) (
  .seq (.seq (.region [.m 8 1,.m 9 0,⟨some 10, .capR (.t 9), none⟩,.m 11 0,⟨some 12, .len (.t 11), none⟩,⟨some 13, .bin .sub (.t 10) (.t 12), none⟩,⟨some 14, .bin .sub (.t 8) (.t 13), none⟩,.m 1 14]) (
  .seq (.region [.m 15 1,⟨some 16, .bin .gtr (.t 15) (.c (.int .i64 0)), none⟩]) (
  .cond (.t 16) (.region [.m 17 0,.m 18 0,⟨some 19, .capR (.t 18), none⟩,⟨some 20, .slnil (.t 17) (.t 19), none⟩,.m 21 1,⟨some 22, .hop (.appendZ 2 16 (.t 20) (.t 21)), none⟩,.m 23 0,⟨some 24, .len (.t 23), none⟩,⟨some 25, .slice 2 (.t 22) none (some (.t 24)) none, none⟩,.m 0 25]) (.skip)))) (
  .seq (.region [.m 26 0,.m 4 26]) (
  .own 4 true 2 (.ret)))))
def R.slices_Grow_Cell : List ARes := [.t 4]
set_option maxRecDepth 100000 in
theorem K.slices_Grow_Cell : ckFun Try.prog Try.f229 C.slices_Grow_Cell R.slices_Grow_Cell = true := by kernel_rfl
def C.slices_Concat_Cell : ACode :=
  .seq (.region [⟨some 2, .move false (.c (.lst .nil [])), none⟩]) (
  .seq (.region [⟨some 3, .move false (.c (.int .i64 0)), none⟩]) (
  .seq (.seq (.region [.m 9 0,⟨some 10, .len (.t 9), none⟩,⟨some 11, .move false (.c (.int .i64 0)), none⟩]) (
  .block 0 (.loop (.seq (.region [⟨some 12, .bin .lss (.t 11) (.t 10), none⟩]) (
  .seq (.cond (.t 12) (.skip) (.exit 0)) (
  .seq (.block 1 (.seq (.region [⟨some 13, .iaddr 1 (.t 9) (.t 11), none⟩,⟨some 14, .load 2 false 1 (.t 13), none⟩,.m 5 14]) (
  .seq (.region [.m 15 3,.m 16 5,⟨some 17, .len (.t 16), none⟩,⟨some 18, .bin .add (.t 15) (.t 17), none⟩,.m 3 18]) (
  .seq (.region [.m 19 3,⟨some 20, .bin .lss (.t 19) (.c (.int .i64 0)), none⟩]) (
  .cond (.t 20) (.region [⟨some 21, .refuse, none⟩,⟨none, .refuse, none⟩]) (.skip)))))) (
  .region [⟨some 22, .bin .add (.t 11) (.c (.int .i64 1)), none⟩,.m 11 22]))))))) (
  .seq (.region [.m 23 3,⟨some 24, .call true F.slices_Grow_Cell [(.c (.lst .nil [])), (.t 23)], none⟩,⟨some 6, .move true (.t 24), none⟩]) (
  .seq (.seq (.thaw 6 (.region [.m 25 0,⟨some 26, .len (.t 25), none⟩,⟨some 27, .move false (.c (.int .i64 0)), none⟩])) (
  .block 2 (.loop (.seq (.region [⟨some 28, .bin .lss (.t 27) (.t 26), none⟩]) (
  .seq (.cond (.t 28) (.skip) (.exit 2)) (
  .seq (.block 3 (.seq (.region [⟨some 29, .iaddr 1 (.t 25) (.t 27), none⟩,⟨some 30, .load 2 false 1 (.t 29), none⟩,.m 8 30]) (
  .region [⟨some 31, .move true (.t 6), none⟩,.m 32 8,⟨some 33, .hop (.appendR 2 16 (.t 31) (.t 32)), none⟩,⟨some 6, .move true (.t 33), none⟩]))) (
  .region [⟨some 34, .bin .add (.t 27) (.c (.int .i64 1)), none⟩,.m 27 34]))))))) (
  .seq (.region [⟨some 35, .move true (.t 6), none⟩,⟨some 2, .move true (.t 35), none⟩]) (
  .ret))))))
def R.slices_Concat_Cell : List ARes := [.t 2]
set_option maxRecDepth 100000 in
theorem K.slices_Concat_Cell : ckFun Try.prog Try.f205 C.slices_Concat_Cell R.slices_Concat_Cell = true := by kernel_rfl
def C.grid_sorted : ACode :=
  .seq (.region [⟨some 2, .move false (.c (.lst .nil [])), none⟩]) (
  .seq (.region [.m 4 0,⟨some 5, .call true F.slices_Concat_Cell [(.t 4)], none⟩,.m 3 5]) (
  .seq (.region [.m 6 3,⟨some 7, .call true F.slices_SortFunc_Cell [(.t 6), (.c (.func 198 []))], none⟩]) (
  .seq (.region [.m 8 3,⟨some 9, .call true F.slices_Compact_Cell [(.t 8)], none⟩,⟨some 2, .move true (.t 9), none⟩]) (
  .ret))))
def R.grid_sorted : List ARes := [.t 2]
set_option maxRecDepth 100000 in
theorem K.grid_sorted : ckFun Try.prog Try.f182 C.grid_sorted R.grid_sorted = true := by kernel_rfl
def C.grid_sortedA : ACode :=
  .seq (.region [⟨some 2, .move false (.c (.lst .nil [])), none⟩]) (
  .seq (.region [.m 4 0,⟨some 5, .call true F.slices_Concat_Cell [(.t 4)], none⟩,.m 3 5]) (
  .seq (.region [.m 6 3,⟨some 7, .call true F.slices_SortFunc_Cell [(.t 6), (.c (.func 198 []))], none⟩]) (
  .seq (.region [.m 8 3,⟨some 9, .call true F.slices_Compact_Cell [(.t 8)], none⟩,.m 2 9]) (
  .own 2 true 2 (.grab 2 (.ret))))))
def R.grid_sortedA : List ARes := [.t 2]
set_option maxRecDepth 100000 in
theorem K.grid_sortedA : ckFun Try.prog Try.f182 C.grid_sortedA R.grid_sortedA = true := by kernel_rfl
def C.slices_Compact_Cell : ACode :=
  .seq (.region [⟨some 2, .move false (.c (.lst .nil [])), none⟩]) (
  .seq (.seq (.region [.m 6 0,⟨some 7, .len (.t 6), none⟩,⟨some 8, .bin .lss (.t 7) (.c (.int .i64 2)), none⟩]) (
  .cond (.t 8) (.seq (.region [⟨some 9, .move true (.t 0), none⟩,⟨some 2, .move true (.t 9), none⟩]) (
  .ret)) (.skip))) (
  .seq (.seq (.region [⟨some 3, .move false (.c (.int .i64 1)), none⟩]) (
  .block 0 (.loop (.seq (.seq (.region [.m 10 3,.m 11 0,⟨some 12, .len (.t 11), none⟩,⟨some 13, .bin .lss (.t 10) (.t 12), none⟩]) (
  .cond (.t 13) (.skip) (.exit 0))) (
  .seq (.block 1 (.seq (.drawn [0, 1, 2, 3, 4, 5, 6, 7, 8, 9] [0, 0, 3, 7, 0, 0, 32, 112, 240, 511] [.m 16 0,.m 17 3,⟨some 18, .iaddr 2 (.t 16) (.t 17), none⟩,⟨some 19, .load 2 true 2 (.t 18), none⟩,.m 20 0,.m 21 3,⟨some 22, .bin .sub (.t 21) (.c (.int .i64 1)), none⟩,⟨some 23, .iaddr 2 (.t 20) (.t 22), none⟩,⟨some 24, .load 2 true 2 (.t 23), none⟩,⟨some 25, .eqs false [.i .i64, .i .i64] (.t 19) (.t 24), none⟩]) (
  .cond (.t 25) (.seq (.region [.m 26 0,.m 27 3,⟨some 28, .slice 2 (.t 26) (some (.t 27)) none none, none⟩,.m 4 28]) (
  .seq (.seq (.region [⟨some 5, .move false (.c (.int .i64 1)), none⟩]) (
  .block 2 (.loop (.seq (.seq (.region [.m 29 5,.m 30 4,⟨some 31, .len (.t 30), none⟩,⟨some 32, .bin .lss (.t 29) (.t 31), none⟩]) (
  .cond (.t 32) (.skip) (.exit 2))) (
  .seq (.block 3 (.seq (.drawn [0, 1, 2, 3, 4, 5, 6, 7, 8, 9] [0, 0, 3, 7, 0, 0, 32, 112, 240, 511] [.m 35 4,.m 36 5,⟨some 37, .iaddr 2 (.t 35) (.t 36), none⟩,⟨some 38, .load 2 true 2 (.t 37), none⟩,.m 39 4,.m 40 5,⟨some 41, .bin .sub (.t 40) (.c (.int .i64 1)), none⟩,⟨some 42, .iaddr 2 (.t 39) (.t 41), none⟩,⟨some 43, .load 2 true 2 (.t 42), none⟩,⟨some 44, .eqs true [.i .i64, .i .i64] (.t 38) (.t 43), none⟩]) (
  .cond (.t 44) (.seq (.region [.m 45 0,.m 46 3,.m 47 4,.m 48 5,⟨some 49, .iaddr 2 (.t 47) (.t 48), none⟩,⟨some 50, .load 2 true 2 (.t 49), none⟩,⟨some 51, .iaddr 2 (.t 45) (.t 46), none⟩,⟨none, .store 2 (.t 51) (.t 50), none⟩]) (
  .region [.m 52 3,⟨some 53, .bin .add (.t 52) (.c (.int .i64 1)), none⟩,.m 3 53])) (.skip)))) (
  .region [.m 33 5,⟨some 34, .bin .add (.t 33) (.c (.int .i64 1)), none⟩,.m 5 34])))))) (
  .seq (.region [.m 54 0,.m 55 3,⟨some 56, .slice 2 (.t 54) (some (.t 55)) none none, none⟩,⟨none, .hop (.clearR 2 (.agg [(.int .i64 0), (.int .i64 0)]) (.t 56)), none⟩]) (
  .seq (.region [.m 57 0,.m 58 3,⟨some 59, .slice 2 (.t 57) none (some (.t 58)) none, none⟩,⟨some 2, .move true (.t 59), none⟩]) (
  .ret))))) (.skip)))) (
  .region [.m 14 3,⟨some 15, .bin .add (.t 14) (.c (.int .i64 1)), none⟩,.m 3 15])))))) (
  .seq (.region [⟨some 60, .move true (.t 0), none⟩,⟨some 2, .move true (.t 60), none⟩]) (
  .ret))))
def R.slices_Compact_Cell : List ARes := [.t 2]
set_option maxRecDepth 100000 in
theorem K.slices_Compact_Cell : ckFun Try.prog Try.f206 C.slices_Compact_Cell R.slices_Compact_Cell = true := by kernel_rfl
def C.slices_DeleteFunc_Cell : ACode :=
  .seq (.region [⟨some 4, .move false (.c (.lst .nil [])), none⟩]) (
  .seq (.region [.m 8 0,.m 9 1,⟨some 10, .call true F.slices_IndexFunc_Cell [(.t 8), (.t 9)], none⟩,.m 5 10]) (
  .seq (.seq (.region [.m 11 5,⟨some 12, .bin .eql (.t 11) (.c (.int .i64 (-1))), none⟩]) (
  .cond (.t 12) (.seq (.region [⟨some 13, .move true (.t 0), none⟩,⟨some 4, .move true (.t 13), none⟩]) (
  .ret)) (.skip))) (
  .seq (.seq (.region [.m 14 5,⟨some 15, .bin .add (.t 14) (.c (.int .i64 1)), none⟩,.m 6 15]) (
  .block 0 (.loop (.seq (.seq (.region [.m 16 6,.m 17 0,⟨some 18, .len (.t 17), none⟩,⟨some 19, .bin .lss (.t 16) (.t 18), none⟩]) (
  .cond (.t 19) (.skip) (.exit 0))) (
  .seq (.block 1 (.seq (.region [.m 22 0,.m 23 6,⟨some 24, .iaddr 2 (.t 22) (.t 23), none⟩,⟨some 25, .load 2 true 2 (.t 24), none⟩,⟨some 7, .alloc false [(.int .i64 0), (.int .i64 0)], none⟩,⟨none, .store 2 (.t 7) (.t 25), none⟩]) (
  .seq (.region [.m 26 1,⟨some 27, .load 2 true 2 (.t 7), none⟩,⟨some 28, .hop (.callvq (.t 26) [(.t 27)]), none⟩,⟨some 29, .un .not (.t 28), none⟩]) (
  .cond (.t 29) (.seq (.region [.m 30 0,.m 31 5,⟨some 32, .load 2 true 2 (.t 7), none⟩,⟨some 33, .iaddr 2 (.t 30) (.t 31), none⟩,⟨none, .store 2 (.t 33) (.t 32), none⟩]) (
  .region [.m 34 5,⟨some 35, .bin .add (.t 34) (.c (.int .i64 1)), none⟩,.m 5 35])) (.skip))))) (
  .region [.m 20 6,⟨some 21, .bin .add (.t 20) (.c (.int .i64 1)), none⟩,.m 6 21])))))) (
  .seq (.region [.m 36 0,.m 37 5,⟨some 38, .slice 2 (.t 36) (some (.t 37)) none none, none⟩,⟨none, .hop (.clearR 2 (.agg [(.int .i64 0), (.int .i64 0)]) (.t 38)), none⟩]) (
  .seq (.region [.m 39 0,.m 40 5,⟨some 41, .slice 2 (.t 39) none (some (.t 40)) none, none⟩,⟨some 4, .move true (.t 41), none⟩]) (
  .ret))))))
def R.slices_DeleteFunc_Cell : List ARes := [.t 4]
set_option maxRecDepth 100000 in
theorem K.slices_DeleteFunc_Cell : ckFun Try.prog Try.f183 C.slices_DeleteFunc_Cell R.slices_DeleteFunc_Cell = true := by kernel_rfl
def C.slices_IndexFunc_Cell : ACode :=
  .seq (.region [⟨some 4, .move false (.c (.int .i64 0)), none⟩]) (
  .seq (.seq (.region [.m 6 0,⟨some 7, .len (.t 6), none⟩,⟨some 8, .move false (.c (.int .i64 0)), none⟩]) (
  .block 0 (.loop (.seq (.region [⟨some 9, .bin .lss (.t 8) (.t 7), none⟩]) (
  .seq (.cond (.t 9) (.skip) (.exit 0)) (
  .seq (.block 1 (.seq (.region [.m 10 8,.m 5 10]) (
  .seq (.region [.m 11 1,.m 12 0,.m 13 5,⟨some 14, .iaddr 2 (.t 12) (.t 13), none⟩,⟨some 15, .load 2 true 2 (.t 14), none⟩,⟨some 16, .hop (.callvq (.t 11) [(.t 15)]), none⟩]) (
  .cond (.t 16) (.seq (.region [.m 17 5,.m 4 17]) (
  .ret)) (.skip))))) (
  .region [⟨some 18, .bin .add (.t 8) (.c (.int .i64 1)), none⟩,.m 8 18]))))))) (
  .seq (.region [⟨some 4, .move false (.c (.int .i64 (-1))), none⟩]) (
  .ret)))
def R.slices_IndexFunc_Cell : List ARes := [.t 4]
set_option maxRecDepth 100000 in
theorem K.slices_IndexFunc_Cell : ckFun Try.prog Try.f207 C.slices_IndexFunc_Cell R.slices_IndexFunc_Cell = true := by kernel_rfl
def C.slices_BinarySearchFunc_Cell : ACode :=
  .seq (.region [⟨some 4, .bx false (.t 1), none⟩,⟨some 6, .move false (.c (.int .i64 0)), none⟩,⟨some 7, .move false (.c (.bool false)), none⟩]) (
  .seq (.region [.m 12 0,⟨some 13, .len (.t 12), none⟩,.m 8 13]) (
  .seq (.region [.m 14 8,⟨some 9, .move false (.c (.int .i64 0)), none⟩,.m 10 14]) (
  .seq (.block 0 (.loop (.seq (.seq (.region [.m 15 9,.m 16 10,⟨some 17, .bin .lss (.t 15) (.t 16), none⟩]) (
  .cond (.t 17) (.skip) (.exit 0))) (
  .block 1 (.seq (.region [.m 18 9,.m 19 10,⟨some 20, .bin .add (.t 18) (.t 19), none⟩,⟨some 21, .conv .u64 (.t 20), none⟩,⟨some 22, .bin .shr (.t 21) (.c (.int .u64 1)), none⟩,⟨some 23, .conv .i64 (.t 22), none⟩,.m 11 23]) (
  .seq (.drawn [0, 1, 2, 3, 4, 5, 6, 7] [0, 0, 0, 6, 14, 0, 63, 127] [.m 24 2,.m 25 0,.m 26 11,⟨some 27, .iaddr 2 (.t 25) (.t 26), none⟩,⟨some 28, .load 0 true 2 (.t 27), none⟩,⟨some 29, .load 1 true 2 (.t 4), none⟩,⟨some 30, .hop (.callvq (.t 24) [(.t 28), (.t 29)]), none⟩,⟨some 31, .bin .lss (.t 30) (.c (.int .i64 0)), none⟩]) (
  .cond (.t 31) (.region [.m 32 11,⟨some 33, .bin .add (.t 32) (.c (.int .i64 1)), none⟩,.m 9 33]) (.region [.m 34 11,.m 10 34])))))))) (
  .seq (.drawn [0, 1, 2, 3, 4, 5, 6, 7, 8, 9, 10, 11, 12, 13, 14, 15] [0, 0, 0, 6, 14, 30, 30, 30, 222, 478, 30, 2046, 4094, 8190, 4095, 32767] [.m 35 9,.m 36 9,.m 37 8,⟨some 38, .bin .lss (.t 36) (.t 37), none⟩,.m 39 38,⟨some 40, .move false (.t 2), (some (39, true))⟩,⟨some 41, .move false (.t 0), (some (39, true))⟩,⟨some 42, .move false (.t 9), (some (39, true))⟩,⟨some 43, .iaddr 2 (.t 41) (.t 42), (some (39, true))⟩,⟨some 44, .load 0 true 2 (.t 43), (some (39, true))⟩,⟨some 45, .load 1 true 2 (.t 4), (some (39, true))⟩,⟨some 46, .hop (.callvq (.t 40) [(.t 44), (.t 45)]), (some (39, true))⟩,⟨some 47, .bin .eql (.t 46) (.c (.int .i64 0)), (some (39, true))⟩,⟨some 48, .pick (.t 39) (.t 47) (.c (.bool false)), none⟩,.m 6 35,.m 7 48]) (
  .ret)))))
def R.slices_BinarySearchFunc_Cell : List ARes := [.t 6, .t 7]
set_option maxRecDepth 100000 in
theorem K.slices_BinarySearchFunc_Cell : ckFun Try.prog Try.f208 C.slices_BinarySearchFunc_Cell R.slices_BinarySearchFunc_Cell = true := by kernel_rfl
def C.slices_ContainsFunc_Cell : ACode :=
  .seq (.region [⟨some 4, .move false (.c (.bool false)), none⟩]) (
  .seq (.region [.m 5 0,.m 6 1,⟨some 7, .call true F.slices_IndexFunc_Cell [(.t 5), (.t 6)], none⟩,⟨some 8, .bin .geq (.t 7) (.c (.int .i64 0)), none⟩,.m 4 8]) (
  .ret))
def R.slices_ContainsFunc_Cell : List ARes := [.t 4]
set_option maxRecDepth 100000 in
theorem K.slices_ContainsFunc_Cell : ckFun Try.prog Try.f195 C.slices_ContainsFunc_Cell R.slices_ContainsFunc_Cell = true := by kernel_rfl
def C.grid_has : ACode :=
  .seq (.region [⟨some 3, .bx false (.t 1), none⟩,⟨some 4, .move false (.c (.bool false)), none⟩]) (
  .seq (.region [.m 8 0,⟨some 9, .load 2 true 2 (.t 3), none⟩,⟨some 10, .call true F.slices_BinarySearchFunc_Cell [(.t 8), (.t 9), (.c (.func 198 []))], none⟩,.m 7 10,⟨some 11, .ext 0 (.t 7), none⟩,⟨some 12, .ext 1 (.t 7), none⟩,.m 5 11,.m 6 12]) (
  .seq (.region [.m 13 6,.m 4 13]) (
  .ret)))
def R.grid_has : List ARes := [.t 4]
set_option maxRecDepth 100000 in
theorem K.grid_has : ckFun Try.prog Try.f185 C.grid_has R.grid_has = true := by kernel_rfl
def C.grid_Join : ACode :=
  .seq (.region [⟨some 4, .move false (.c (.lst .nil [])), none⟩]) (
  .seq (.region [.m 5 0,.m 6 1,⟨some 7, .buildS false 1 [(.t 5), (.t 6)], none⟩,⟨some 8, .call true F.grid_sorted [(.t 7)], none⟩,⟨some 4, .move true (.t 8), none⟩]) (
  .ret))
def R.grid_Join : List ARes := [.t 4]
set_option maxRecDepth 100000 in
theorem K.grid_Join : ckFun Try.prog Try.f178 C.grid_Join R.grid_Join = true := by kernel_rfl
def C.grid_Minus : ACode :=
  .seq (.region [⟨some 3, .bx true (.t 1), none⟩,⟨some 4, .move false (.c (.lst .nil [])), none⟩]) (
  .seq (.prom 3 (.region [⟨some 5, .load 2 false 1 (.t 3), none⟩,⟨some 6, .buildS false 1 [(.t 5)], none⟩,⟨some 7, .call true F.grid_sorted [(.t 6)], none⟩,⟨none, .store 1 (.t 3) (.t 7), none⟩])) (
  .seq (.region [.m 8 0,⟨some 9, .buildS false 1 [(.t 8)], none⟩,⟨some 10, .call true F.grid_sorted [(.t 9)], none⟩,⟨some 11, .mkf F.grid_Minus_1 [(.t 3)], none⟩,⟨some 12, .call true F.slices_DeleteFunc_Cell [(.t 10), (.t 11)], none⟩,.m 4 12]) (
  .own 4 true 2 (.grab 4 (.ret)))))
def R.grid_Minus : List ARes := [.t 4]
set_option maxRecDepth 100000 in
theorem K.grid_Minus : ckFun Try.prog Try.f143 C.grid_Minus R.grid_Minus = true := by kernel_rfl
def C.grid_Minus_1 : ACode :=
  .seq (.region [⟨some 2, .bx false (.t 0), none⟩,⟨some 3, .move false (.c (.bool false)), none⟩]) (
  .seq (.region [⟨some 4, .load 2 false 1 (.t 1), none⟩,⟨some 5, .load 2 true 2 (.t 2), none⟩,⟨some 6, .call true F.grid_has [(.t 4), (.t 5)], none⟩,.m 3 6]) (
  .ret))
def R.grid_Minus_1 : List ARes := [.t 3]
set_option maxRecDepth 100000 in
theorem K.grid_Minus_1 : ckFun Try.prog Try.f193 C.grid_Minus_1 R.grid_Minus_1 = true := by kernel_rfl
def C.grid_Within : ACode :=
  .seq (.region [⟨some 3, .bx true (.t 1), none⟩,⟨some 4, .move false (.c (.bool false)), none⟩]) (
  .seq (.prom 3 (.region [⟨some 5, .load 2 false 1 (.t 3), none⟩,⟨some 6, .buildS false 1 [(.t 5)], none⟩,⟨some 7, .call true F.grid_sorted [(.t 6)], none⟩,⟨none, .store 1 (.t 3) (.t 7), none⟩])) (
  .seq (.region [.m 8 0,⟨some 9, .mkf F.grid_Within_1 [(.t 3)], none⟩,⟨some 10, .call true F.slices_ContainsFunc_Cell [(.t 8), (.t 9)], none⟩,⟨some 11, .un .not (.t 10), none⟩,.m 4 11]) (
  .ret)))
def R.grid_Within : List ARes := [.t 4]
set_option maxRecDepth 100000 in
theorem K.grid_Within : ckFun Try.prog Try.f147 C.grid_Within R.grid_Within = true := by kernel_rfl
def C.grid_Within_1 : ACode :=
  .seq (.region [⟨some 2, .bx false (.t 0), none⟩,⟨some 3, .move false (.c (.bool false)), none⟩]) (
  .seq (.region [⟨some 4, .load 2 false 1 (.t 1), none⟩,⟨some 5, .load 2 true 2 (.t 2), none⟩,⟨some 6, .call true F.grid_has [(.t 4), (.t 5)], none⟩,⟨some 7, .un .not (.t 6), none⟩,.m 3 7]) (
  .ret))
def R.grid_Within_1 : List ARes := [.t 3]
set_option maxRecDepth 100000 in
theorem K.grid_Within_1 : ckFun Try.prog Try.f196 C.grid_Within_1 R.grid_Within_1 = true := by kernel_rfl
end Go.Proofs.Ytpdajkbfemcdlaa
namespace Go.Proofs.Ytpdajkbfemcdlaa
open Go.Ge
def C.fall_Check : ACode :=
  .seq (.region [⟨some 1, .bx true (.t 0), none⟩,⟨some 2, .move false (.c (.int .i64 0)), none⟩]) (
  .seq (.seq (.region [⟨some 3, .faddr 0 (.t 1), none⟩,⟨some 4, .load 2 false 1 (.t 3), none⟩,⟨some 5, .bin .lss (.t 4) (.c (.int .i64 1)), none⟩,.m 6 5,⟨some 7, .faddr 0 (.t 1), (some (6, false))⟩,⟨some 8, .load 2 false 1 (.t 7), (some (6, false))⟩,⟨some 9, .bin .gtr (.t 8) (.c (.int .i64 6)), (some (6, false))⟩,⟨some 10, .pick (.t 6) (.c (.bool true)) (.t 9), none⟩]) (
  .cond (.t 10) (.seq (.region [⟨some 2, .move false (.c (.int .i64 1)), none⟩]) (
  .ret)) (.skip))) (
  .seq (.seq (.region [⟨some 11, .faddr 0 (.t 1), none⟩,⟨some 12, .load 2 false 1 (.t 11), none⟩,⟨some 13, .bin .eql (.t 12) (.c (.int .i64 1)), none⟩,.m 14 13,⟨some 15, .faddr 1 (.t 1), (some (14, true))⟩,⟨some 16, .load 2 false 1 (.t 15), (some (14, true))⟩,⟨some 17, .bin .lss (.t 16) (.c (.int .i64 0)), (some (14, true))⟩,⟨some 18, .move false (.t 17), (some (14, true))⟩,⟨some 19, .faddr 1 (.t 1), (some (18, false))⟩,⟨some 20, .load 2 false 1 (.t 19), (some (18, false))⟩,⟨some 21, .bin .gtr (.t 20) (.c (.int .i64 2147483647)), (some (18, false))⟩,⟨some 22, .pick (.t 18) (.c (.bool true)) (.t 21), (some (14, true))⟩,⟨some 23, .pick (.t 14) (.t 22) (.c (.bool false)), none⟩,.m 24 23,⟨some 25, .faddr 0 (.t 1), (some (24, false))⟩,⟨some 26, .load 2 false 1 (.t 25), (some (24, false))⟩,⟨some 27, .bin .neq (.t 26) (.c (.int .i64 1)), (some (24, false))⟩,⟨some 28, .move false (.t 27), (some (24, false))⟩,⟨some 29, .faddr 1 (.t 1), (some (28, true))⟩,⟨some 30, .load 2 false 1 (.t 29), (some (28, true))⟩,⟨some 31, .bin .neq (.t 30) (.c (.int .i64 0)), (some (28, true))⟩,⟨some 32, .pick (.t 28) (.t 31) (.c (.bool false)), (some (24, false))⟩,⟨some 33, .pick (.t 24) (.c (.bool true)) (.t 32), none⟩]) (
  .cond (.t 33) (.seq (.region [⟨some 2, .move false (.c (.int .i64 2)), none⟩]) (
  .ret)) (.skip))) (
  .seq (.seq (.region [⟨some 34, .faddr 0 (.t 1), none⟩,⟨some 35, .load 2 false 1 (.t 34), none⟩,⟨some 36, .bin .neq (.t 35) (.c (.int .i64 3)), none⟩,.m 37 36,⟨some 38, .faddr 0 (.t 1), (some (37, true))⟩,⟨some 39, .load 2 false 1 (.t 38), (some (37, true))⟩,⟨some 40, .bin .neq (.t 39) (.c (.int .i64 5)), (some (37, true))⟩,⟨some 41, .pick (.t 37) (.t 40) (.c (.bool false)), none⟩,.m 42 41,⟨some 43, .faddr 2 (.t 1), (some (42, true))⟩,⟨some 44, .load 2 false 1 (.t 43), (some (42, true))⟩,⟨some 45, .len (.t 44), (some (42, true))⟩,⟨some 46, .bin .gtr (.t 45) (.c (.int .i64 0)), (some (42, true))⟩,⟨some 47, .pick (.t 42) (.t 46) (.c (.bool false)), none⟩]) (
  .cond (.t 47) (.seq (.region [⟨some 2, .move false (.c (.int .i64 3)), none⟩]) (
  .ret)) (.skip))) (
  .seq (.region [⟨some 48, .faddr 2 (.t 1), none⟩,⟨some 49, .load 2 false 1 (.t 48), none⟩,⟨some 50, .call true F.grid_Check [(.t 49)], none⟩,.m 2 50]) (
  .ret)))))
def R.fall_Check : List ARes := [.t 2]
set_option maxRecDepth 100000 in
theorem K.fall_Check : ckFun Try.prog Try.f117 C.fall_Check R.fall_Check = true := by kernel_rfl
def C.fall_Right : ACode :=
  .seq (.region [⟨some 1, .bx true (.t 0), none⟩,⟨some 2, .move false (.c (.int .i64 0)), none⟩]) (
  .seq (.seq (.region [⟨some 4, .faddr 0 (.t 1), none⟩,⟨some 5, .load 2 false 1 (.t 4), none⟩,⟨some 6, .faddr 1 (.t 1), none⟩,⟨some 7, .load 2 false 1 (.t 6), none⟩,⟨some 8, .faddr 4 (.t 1), none⟩,⟨some 9, .load 2 false 1 (.t 8), none⟩,⟨some 10, .mn (.t 5) [(.t 7), (.t 9)], none⟩,⟨some 11, .bin .lss (.t 10) (.c (.int .i64 0)), none⟩]) (
  .cond (.t 11) (.seq (.region [⟨some 2, .move false (.c (.int .i64 1)), none⟩]) (
  .ret)) (.skip))) (
  .seq (.seq (.region [⟨some 12, .faddr 2 (.t 1), none⟩,⟨some 13, .load 2 false 1 (.t 12), none⟩,⟨some 14, .call true F.grid_Check [(.t 13)], none⟩,.m 3 14]) (
  .seq (.region [.m 15 3,⟨some 16, .bin .neq (.t 15) (.c (.int .i64 0)), none⟩]) (
  .cond (.t 16) (.seq (.region [.m 17 3,.m 2 17]) (
  .ret)) (.skip)))) (
  .seq (.region [⟨some 18, .faddr 3 (.t 1), none⟩,⟨some 19, .load 2 false 1 (.t 18), none⟩,⟨some 20, .call true F.grid_Check [(.t 19)], none⟩,.m 2 20]) (
  .ret))))
def R.fall_Right : List ARes := [.t 2]
set_option maxRecDepth 100000 in
theorem K.fall_Right : ckFun Try.prog Try.f120 C.fall_Right R.fall_Right = true := by kernel_rfl
def C.fall_Do : ACode :=
  .seq (.region [⟨some 2, .bx true (.t 0), none⟩,⟨some 3, .bx true (.t 1), none⟩,⟨some 4, .alloc false [(.int .i64 0), (.int .i64 0), (.lst .nil []), (.lst .nil []), (.int .i64 0)], none⟩,⟨some 5, .move false (.c (.int .i64 0)), none⟩]) (
  .seq (.seq (.region [⟨some 9, .load 2 true 3 (.t 3), none⟩,⟨some 10, .call true F.fall_Check [(.t 9)], none⟩,.m 6 10]) (
  .seq (.region [.m 11 6,⟨some 12, .bin .neq (.t 11) (.c (.int .i64 0)), none⟩]) (
  .cond (.t 12) (.seq (.region [⟨some 13, .build [(.int .i64 0), (.int .i64 0), (.lst .nil []), (.lst .nil []), (.int .i64 0)] [], none⟩,.m 14 6,⟨none, .store 5 (.t 4) (.t 13), none⟩,.m 5 14]) (
  .ret)) (.skip)))) (
  .seq (.seq (.region [⟨some 15, .load 2 true 5 (.t 2), none⟩,⟨some 16, .call true F.fall_Right [(.t 15)], none⟩,.m 7 16]) (
  .seq (.region [.m 17 7,⟨some 18, .bin .neq (.t 17) (.c (.int .i64 0)), none⟩]) (
  .cond (.t 18) (.seq (.region [⟨some 19, .build [(.int .i64 0), (.int .i64 0), (.lst .nil []), (.lst .nil []), (.int .i64 0)] [], none⟩,.m 20 7,⟨none, .store 5 (.t 4) (.t 19), none⟩,.m 5 20]) (
  .ret)) (.skip)))) (
  .seq (.drawn [0, 1, 3, 4, 2, 6, 5, 7, 8, 9] [0, 1, 3, 0, 8, 31, 31, 127, 255, 511] [⟨some 21, .faddr 2 (.t 2), none⟩,⟨some 22, .load 1 false 1 (.t 21), none⟩,⟨some 24, .faddr 3 (.t 2), none⟩,⟨some 25, .load 1 false 1 (.t 24), none⟩,⟨some 23, .call false F.slices_Clone_Cell [(.t 22)], none⟩,⟨some 27, .faddr 2 (.t 2), none⟩,⟨some 26, .call false F.slices_Clone_Cell [(.t 25)], none⟩,⟨none, .store 1 (.t 27) (.t 23), none⟩,⟨some 28, .faddr 3 (.t 2), none⟩,⟨none, .store 1 (.t 28) (.t 26), none⟩]) (
  .seq (.seq (.region [⟨some 29, .faddr 0 (.t 3), none⟩,⟨some 30, .load 2 false 1 (.t 29), none⟩]) (
  .block 0 (.seq (.region [⟨some 32, .bin .eql (.t 30) (.c (.int .i64 1)), none⟩,.m 31 32]) (
  .cond (.t 31) (.region [⟨some 33, .faddr 1 (.t 3), none⟩,⟨some 34, .load 2 false 1 (.t 33), none⟩,⟨some 35, .faddr 0 (.t 2), none⟩,⟨none, .store 1 (.t 35) (.t 34), none⟩,⟨some 36, .faddr 1 (.t 2), none⟩,⟨none, .store 1 (.t 36) (.c (.int .i64 0)), none⟩]) (.seq (.region [⟨some 38, .bin .eql (.t 30) (.c (.int .i64 2)), none⟩,.m 37 38]) (
  .cond (.t 37) (.seq (.seq (.region [⟨some 39, .faddr 1 (.t 2), none⟩,⟨some 40, .load 2 false 1 (.t 39), none⟩,⟨some 41, .bin .geq (.t 40) (.c (.int .i64 2000)), none⟩]) (
  .cond (.t 41) (.seq (.region [⟨some 42, .build [(.int .i64 0), (.int .i64 0), (.lst .nil []), (.lst .nil []), (.int .i64 0)] [], none⟩,⟨none, .store 5 (.t 4) (.t 42), none⟩,⟨some 5, .move false (.c (.int .i64 19)), none⟩]) (
  .ret)) (.skip))) (
  .region [⟨some 43, .faddr 1 (.t 2), none⟩,⟨some 44, .load 2 false 1 (.t 43), none⟩,⟨some 45, .bin .add (.t 44) (.c (.int .i64 1)), none⟩,⟨some 46, .faddr 1 (.t 2), none⟩,⟨none, .store 1 (.t 46) (.t 45), none⟩])) (.seq (.region [⟨some 48, .bin .eql (.t 30) (.c (.int .i64 3)), none⟩,.m 47 48]) (
  .cond (.t 47) (.seq (.seq (.region [⟨some 49, .faddr 2 (.t 2), none⟩,⟨some 50, .load 2 false 1 (.t 49), none⟩,⟨some 51, .len (.t 50), none⟩,⟨some 52, .bin .gtr (.t 51) (.c (.int .i64 0)), none⟩]) (
  .cond (.t 52) (.seq (.region [⟨some 53, .build [(.int .i64 0), (.int .i64 0), (.lst .nil []), (.lst .nil []), (.int .i64 0)] [], none⟩,⟨none, .store 5 (.t 4) (.t 53), none⟩,⟨some 5, .move false (.c (.int .i64 7)), none⟩]) (
  .ret)) (.skip))) (
  .region [⟨some 54, .faddr 2 (.t 3), none⟩,⟨some 55, .load 2 false 1 (.t 54), none⟩,⟨some 56, .faddr 3 (.t 2), none⟩,⟨some 57, .load 2 false 1 (.t 56), none⟩,⟨some 58, .call true F.grid_Minus [(.t 55), (.t 57)], none⟩,⟨some 59, .faddr 2 (.t 2), none⟩,⟨none, .store 1 (.t 59) (.t 58), none⟩])) (.seq (.region [⟨some 61, .bin .eql (.t 30) (.c (.int .i64 4)), none⟩,.m 60 61]) (
  .cond (.t 60) (.seq (.region [⟨some 62, .faddr 3 (.t 2), none⟩,⟨some 63, .load 2 false 1 (.t 62), none⟩,⟨some 64, .faddr 2 (.t 2), none⟩,⟨some 65, .load 2 false 1 (.t 64), none⟩,⟨some 66, .call true F.grid_Join [(.t 63), (.t 65)], none⟩,⟨some 8, .move true (.t 66), none⟩]) (
  .seq (.seq (.region [.m 67 8,⟨some 68, .call true F.grid_Check [(.t 67)], none⟩,⟨some 69, .bin .neq (.t 68) (.c (.int .i64 0)), none⟩]) (
  .cond (.t 69) (.seq (.region [⟨some 70, .build [(.int .i64 0), (.int .i64 0), (.lst .nil []), (.lst .nil []), (.int .i64 0)] [], none⟩,⟨none, .store 5 (.t 4) (.t 70), none⟩,⟨some 5, .move false (.c (.int .i64 6)), none⟩]) (
  .ret)) (.skip))) (
  .region [⟨some 71, .move true (.t 8), none⟩,⟨some 72, .faddr 3 (.t 2), none⟩,⟨none, .store 1 (.t 72) (.t 71), none⟩,⟨some 73, .faddr 2 (.t 2), none⟩,⟨none, .store 1 (.t 73) (.c (.lst .nil [])), none⟩]))) (.seq (.region [⟨some 75, .bin .eql (.t 30) (.c (.int .i64 5)), none⟩,.m 74 75]) (
  .cond (.t 74) (.seq (.seq (.region [⟨some 76, .faddr 2 (.t 3), none⟩,⟨some 77, .load 2 false 1 (.t 76), none⟩,⟨some 78, .faddr 3 (.t 2), none⟩,⟨some 79, .load 2 false 1 (.t 78), none⟩,⟨some 80, .call true F.grid_Within [(.t 77), (.t 79)], none⟩,⟨some 81, .un .not (.t 80), none⟩]) (
  .cond (.t 81) (.seq (.region [⟨some 82, .build [(.int .i64 0), (.int .i64 0), (.lst .nil []), (.lst .nil []), (.int .i64 0)] [], none⟩,⟨none, .store 5 (.t 4) (.t 82), none⟩,⟨some 5, .move false (.c (.int .i64 4)), none⟩]) (
  .ret)) (.skip))) (
  .region [⟨some 83, .faddr 3 (.t 2), none⟩,⟨some 84, .load 2 false 1 (.t 83), none⟩,⟨some 85, .faddr 2 (.t 3), none⟩,⟨some 86, .load 2 false 1 (.t 85), none⟩,⟨some 87, .call true F.grid_Minus [(.t 84), (.t 86)], none⟩,⟨some 88, .faddr 3 (.t 2), none⟩,⟨none, .store 1 (.t 88) (.t 87), none⟩])) (.seq (.region [⟨some 90, .bin .eql (.t 30) (.c (.int .i64 6)), none⟩,.m 89 90]) (
  .cond (.t 89) (.region [⟨some 91, .faddr 4 (.t 2), none⟩,⟨some 92, .load 2 false 1 (.t 91), none⟩,⟨some 93, .bin .add (.t 92) (.c (.int .i64 1)), none⟩,⟨some 94, .faddr 4 (.t 2), none⟩,⟨none, .store 1 (.t 94) (.t 93), none⟩]) (.skip))))))))))))))) (
  .seq (.region [⟨some 95, .load 2 true 5 (.t 2), none⟩,⟨none, .store 5 (.t 4) (.t 95), none⟩,⟨some 5, .move false (.c (.int .i64 0)), none⟩]) (
  .ret))))))
def R.fall_Do : List ARes := [.c 4 true 5, .t 5]
set_option maxRecDepth 100000 in
theorem K.fall_Do : ckFun Try.prog Try.f110 C.fall_Do R.fall_Do = true := by kernel_rfl
def C.fall_Same : ACode :=
  .seq (.region [⟨some 2, .bx true (.t 0), none⟩,⟨some 3, .bx true (.t 1), none⟩,⟨some 4, .move false (.c (.bool false)), none⟩]) (
  .seq (.region [⟨some 5, .faddr 0 (.t 2), none⟩,⟨some 6, .load 2 false 1 (.t 5), none⟩,⟨some 7, .faddr 0 (.t 3), none⟩,⟨some 8, .load 2 false 1 (.t 7), none⟩,⟨some 9, .bin .eql (.t 6) (.t 8), none⟩,.m 10 9,⟨some 11, .faddr 1 (.t 2), (some (10, true))⟩,⟨some 12, .load 2 false 1 (.t 11), (some (10, true))⟩,⟨some 13, .faddr 1 (.t 3), (some (10, true))⟩,⟨some 14, .load 2 false 1 (.t 13), (some (10, true))⟩,⟨some 15, .bin .eql (.t 12) (.t 14), (some (10, true))⟩,⟨some 16, .pick (.t 10) (.t 15) (.c (.bool false)), none⟩,.m 17 16,⟨some 18, .faddr 4 (.t 2), (some (17, true))⟩,⟨some 19, .load 2 false 1 (.t 18), (some (17, true))⟩,⟨some 20, .faddr 4 (.t 3), (some (17, true))⟩,⟨some 21, .load 2 false 1 (.t 20), (some (17, true))⟩,⟨some 22, .bin .eql (.t 19) (.t 21), (some (17, true))⟩,⟨some 23, .pick (.t 17) (.t 22) (.c (.bool false)), none⟩,.m 24 23,⟨some 25, .faddr 2 (.t 2), (some (24, true))⟩,⟨some 26, .load 2 false 1 (.t 25), (some (24, true))⟩,⟨some 27, .faddr 2 (.t 3), (some (24, true))⟩,⟨some 28, .load 2 false 1 (.t 27), (some (24, true))⟩,⟨some 29, .call true F.slices_Equal_Cell [(.t 26), (.t 28)], (some (24, true))⟩,⟨some 30, .pick (.t 24) (.t 29) (.c (.bool false)), none⟩,.m 31 30,⟨some 32, .faddr 3 (.t 2), (some (31, true))⟩,⟨some 33, .load 2 false 1 (.t 32), (some (31, true))⟩,⟨some 34, .faddr 3 (.t 3), (some (31, true))⟩,⟨some 35, .load 2 false 1 (.t 34), (some (31, true))⟩,⟨some 36, .call true F.slices_Equal_Cell [(.t 33), (.t 35)], (some (31, true))⟩,⟨some 37, .pick (.t 31) (.t 36) (.c (.bool false)), none⟩,.m 4 37]) (
  .ret))
def R.fall_Same : List ARes := [.t 4]
set_option maxRecDepth 100000 in
theorem K.fall_Same : ckFun Try.prog Try.f115 C.fall_Same R.fall_Same = true := by kernel_rfl
def C.fall_Write : ACode :=
  .seq (.region [⟨some 1, .bx true (.t 0), none⟩,⟨some 2, .move false (.c (.lst .nil [])), none⟩,⟨some 3, .move false (.c (.int .i64 0)), none⟩]) (
  .seq (.seq (.region [⟨some 8, .load 2 true 3 (.t 1), none⟩,⟨some 9, .call true F.fall_Check [(.t 8)], none⟩,.m 4 9]) (
  .seq (.region [.m 10 4,⟨some 11, .bin .neq (.t 10) (.c (.int .i64 0)), none⟩]) (
  .cond (.t 11) (.seq (.region [.m 12 4,⟨some 2, .move false (.c (.lst .nil [])), none⟩,.m 3 12]) (
  .ret)) (.skip)))) (
  .seq (.region [⟨some 13, .faddr 0 (.t 1), none⟩,⟨some 14, .load 2 false 1 (.t 13), none⟩,⟨some 15, .conv .u8 (.t 14), none⟩,⟨some 16, .faddr 1 (.t 1), none⟩,⟨some 17, .load 2 false 1 (.t 16), none⟩,⟨some 18, .bin .shr (.t 17) (.c (.int .u64 24)), none⟩,⟨some 19, .conv .u8 (.t 18), none⟩,⟨some 20, .faddr 1 (.t 1), none⟩,⟨some 21, .load 2 false 1 (.t 20), none⟩,⟨some 22, .bin .shr (.t 21) (.c (.int .u64 16)), none⟩,⟨some 23, .conv .u8 (.t 22), none⟩,⟨some 24, .faddr 1 (.t 1), none⟩,⟨some 25, .load 2 false 1 (.t 24), none⟩,⟨some 26, .bin .shr (.t 25) (.c (.int .u64 8)), none⟩,⟨some 27, .conv .u8 (.t 26), none⟩,⟨some 28, .faddr 1 (.t 1), none⟩,⟨some 29, .load 2 false 1 (.t 28), none⟩,⟨some 30, .conv .u8 (.t 29), none⟩,⟨some 31, .buildS false 1 [(.t 15), (.t 19), (.t 23), (.t 27), (.t 30)], none⟩,⟨some 5, .move true (.t 31), none⟩]) (
  .seq (.seq (.region [⟨some 32, .faddr 2 (.t 1), none⟩,⟨some 33, .load 2 false 1 (.t 32), none⟩,⟨some 34, .len (.t 33), none⟩,⟨some 35, .move false (.c (.int .i64 0)), none⟩]) (
  .block 0 (.loop (.seq (.region [⟨some 36, .bin .lss (.t 35) (.t 34), none⟩]) (
  .seq (.cond (.t 36) (.skip) (.exit 0)) (
  .seq (.block 1 (.seq (.region [⟨some 37, .iaddr 2 (.t 33) (.t 35), none⟩,⟨some 38, .load 2 true 2 (.t 37), none⟩,⟨some 7, .alloc false [(.int .i64 0), (.int .i64 0)], none⟩,⟨none, .store 2 (.t 7) (.t 38), none⟩]) (
  .region [⟨some 39, .move true (.t 5), none⟩,⟨some 40, .faddr 0 (.t 7), none⟩,⟨some 41, .load 2 false 1 (.t 40), none⟩,⟨some 42, .bin .add (.t 41) (.c (.int .i64 64)), none⟩,⟨some 43, .conv .u8 (.t 42), none⟩,⟨some 44, .faddr 1 (.t 7), none⟩,⟨some 45, .load 2 false 1 (.t 44), none⟩,⟨some 46, .bin .add (.t 45) (.c (.int .i64 64)), none⟩,⟨some 47, .conv .u8 (.t 46), none⟩,⟨some 48, .buildS false 1 [(.t 43), (.t 47)], none⟩,⟨some 49, .append 1 1 (.t 39) (.t 48), none⟩,⟨some 5, .move true (.t 49), none⟩]))) (
  .region [⟨some 50, .bin .add (.t 35) (.c (.int .i64 1)), none⟩,.m 35 50]))))))) (
  .seq (.region [⟨some 51, .move true (.t 5), none⟩,⟨some 2, .move true (.t 51), none⟩,⟨some 3, .move false (.c (.int .i64 0)), none⟩]) (
  .ret)))))
def R.fall_Write : List ARes := [.t 2, .t 3]
set_option maxRecDepth 100000 in
theorem K.fall_Write : ckFun Try.prog Try.f118 C.fall_Write R.fall_Write = true := by kernel_rfl
def C.fall_Keep : ACode :=
  .seq (.region [⟨some 3, .bx true (.t 0), none⟩,⟨some 5, .bx true (.t 2), none⟩,⟨some 6, .alloc false [(.int .i64 0), (.int .i64 0), (.lst .nil []), (.lst .nil []), (.int .i64 0)], none⟩,⟨some 7, .move false (.c (.lst .nil [])), none⟩,⟨some 8, .move false (.c (.int .i64 0)), none⟩]) (
  .seq (.region [⟨some 15, .load 2 true 5 (.t 3), none⟩,⟨some 16, .load 2 true 3 (.t 5), none⟩,⟨some 17, .call true F.fall_Do [(.t 15), (.t 16)], none⟩,⟨some 14, .moveX 17, none⟩,⟨some 18, .extT 0 14, none⟩,⟨some 19, .ext 1 (.t 14), none⟩,⟨some 9, .alloc false [(.int .i64 0), (.int .i64 0), (.lst .nil []), (.lst .nil []), (.int .i64 0)], none⟩,⟨none, .store 5 (.t 9) (.t 18), none⟩,.m 10 19]) (
  .seq (.seq (.region [.m 20 10,⟨some 21, .bin .neq (.t 20) (.c (.int .i64 0)), none⟩]) (
  .cond (.t 21) (.seq (.region [⟨some 22, .build [(.int .i64 0), (.int .i64 0), (.lst .nil []), (.lst .nil []), (.int .i64 0)] [], none⟩,.m 23 10,⟨none, .store 5 (.t 6) (.t 22), none⟩,⟨some 7, .move false (.c (.lst .nil [])), none⟩,.m 8 23]) (
  .ret)) (.skip))) (
  .seq (.region [⟨some 25, .load 2 true 3 (.t 5), none⟩,⟨some 26, .call true F.fall_Write [(.t 25)], none⟩,.m 24 26,⟨some 27, .ext 0 (.t 24), none⟩,⟨some 28, .ext 1 (.t 24), none⟩,.m 11 27,.m 12 28]) (
  .seq (.region [.m 30 1,.m 31 11,⟨some 32, .call true F.log_Add [(.t 30), (.t 31)], none⟩,⟨some 29, .moveX 32, none⟩,⟨some 33, .extT 0 29, none⟩,⟨some 34, .ext 1 (.t 29), none⟩,⟨some 13, .move true (.t 33), none⟩,.m 10 34]) (
  .seq (.seq (.region [.m 35 10,⟨some 36, .bin .neq (.t 35) (.c (.int .i64 0)), none⟩]) (
  .cond (.t 36) (.seq (.region [⟨some 37, .build [(.int .i64 0), (.int .i64 0), (.lst .nil []), (.lst .nil []), (.int .i64 0)] [], none⟩,.m 38 10,⟨none, .store 5 (.t 6) (.t 37), none⟩,⟨some 7, .move false (.c (.lst .nil [])), none⟩,.m 8 38]) (
  .ret)) (.skip))) (
  .seq (.region [⟨some 39, .load 2 true 5 (.t 9), none⟩,⟨some 40, .move true (.t 13), none⟩,⟨none, .store 5 (.t 6) (.t 39), none⟩,⟨some 7, .move true (.t 40), none⟩,⟨some 8, .move false (.c (.int .i64 0)), none⟩]) (
  .ret)))))))
def R.fall_Keep : List ARes := [.c 6 true 5, .t 7, .t 8]
set_option maxRecDepth 100000 in
theorem K.fall_Keep : ckFun Try.prog Try.f113 C.fall_Keep R.fall_Keep = true := by kernel_rfl
end Go.Proofs.Ytpdajkbfemcdlaa
namespace Go.Proofs.Ytpdajkbfemcdlaa
open Go.Ge
def C.gantref5_MemFault : ACode :=
  .seq (.region [⟨some 1, .bx true (.t 0), none⟩,⟨some 2, .move false (.c (.int .i64 0)), none⟩]) (
  .seq (.seq (.region [⟨some 4, .faddr 0 (.t 1), none⟩,⟨some 5, .load 2 false 1 (.t 4), none⟩,⟨some 6, .bin .lss (.t 5) (.c (.int .i64 0)), none⟩,.m 7 6,⟨some 8, .faddr 1 (.t 1), (some (7, false))⟩,⟨some 9, .load 2 false 1 (.t 8), (some (7, false))⟩,⟨some 10, .bin .lss (.t 9) (.c (.int .i64 0)), (some (7, false))⟩,⟨some 11, .pick (.t 7) (.c (.bool true)) (.t 10), none⟩,.m 12 11,⟨some 13, .faddr 2 (.t 1), (some (12, false))⟩,⟨some 14, .load 2 false 1 (.t 13), (some (12, false))⟩,⟨some 15, .bin .lss (.t 14) (.c (.int .i64 0)), (some (12, false))⟩,⟨some 16, .pick (.t 12) (.c (.bool true)) (.t 15), none⟩]) (
  .cond (.t 16) (.seq (.region [⟨some 2, .move false (.c (.int .i64 1)), none⟩]) (
  .ret)) (.skip))) (
  .seq (.seq (.region [⟨some 17, .faddr 3 (.t 1), none⟩,⟨some 18, .load 2 false 1 (.t 17), none⟩,⟨some 19, .call true F.gantref5_CellsFault [(.t 18)], none⟩,.m 3 19]) (
  .seq (.region [.m 20 3,⟨some 21, .bin .neq (.t 20) (.c (.int .i64 0)), none⟩]) (
  .cond (.t 21) (.seq (.region [.m 22 3,.m 2 22]) (
  .ret)) (.skip)))) (
  .seq (.region [⟨some 23, .faddr 4 (.t 1), none⟩,⟨some 24, .load 2 false 1 (.t 23), none⟩,⟨some 25, .call true F.gantref5_CellsFault [(.t 24)], none⟩,.m 2 25]) (
  .ret))))
def R.gantref5_MemFault : List ARes := [.t 2]
set_option maxRecDepth 100000 in
theorem K.gantref5_MemFault : ckFun Try.prog Try.f121 C.gantref5_MemFault R.gantref5_MemFault = true := by kernel_rfl
def C.gantref5_EventFault : ACode :=
  .seq (.region [⟨some 6, .move false (.c (.int .i64 0)), none⟩]) (
  .seq (.block 0 (.seq (.region [.m 8 0,⟨some 9, .bin .lss (.t 8) (.c (.int .i64 1)), none⟩,.m 10 9,⟨some 11, .move false (.t 0), (some (10, false))⟩,⟨some 12, .bin .gtr (.t 11) (.c (.int .i64 6)), (some (10, false))⟩,⟨some 13, .pick (.t 10) (.c (.bool true)) (.t 12), none⟩,.m 7 13]) (
  .cond (.t 7) (.seq (.region [⟨some 6, .move false (.c (.int .i64 1)), none⟩]) (
  .ret)) (.seq (.seq (.region [.m 15 0,⟨some 16, .bin .eql (.t 15) (.c (.int .i64 1)), none⟩,.m 17 16,⟨some 18, .move false (.t 1), (some (17, true))⟩,⟨some 19, .bin .lss (.t 18) (.c (.int .i64 0)), (some (17, true))⟩,⟨some 20, .move false (.t 19), (some (17, true))⟩,⟨some 21, .move false (.t 1), (some (20, false))⟩,⟨some 22, .bin .geq (.t 21) (.c (.int .i64 2147483648)), (some (20, false))⟩,⟨some 23, .pick (.t 20) (.c (.bool true)) (.t 22), (some (17, true))⟩,⟨some 24, .pick (.t 17) (.t 23) (.c (.bool false)), none⟩,.m 14 24]) (
  .cond (.t 14) (.skip) (.region [.m 25 0,⟨some 26, .bin .gtr (.t 25) (.c (.int .i64 1)), none⟩,.m 27 26,⟨some 28, .move false (.t 1), (some (27, true))⟩,⟨some 29, .bin .neq (.t 28) (.c (.int .i64 0)), (some (27, true))⟩,⟨some 30, .pick (.t 27) (.t 29) (.c (.bool false)), none⟩,.m 14 30]))) (
  .cond (.t 14) (.seq (.region [⟨some 6, .move false (.c (.int .i64 2)), none⟩]) (
  .ret)) (.seq (.region [.m 32 0,⟨some 33, .bin .neq (.t 32) (.c (.int .i64 3)), none⟩,.m 34 33,⟨some 35, .move false (.t 0), (some (34, true))⟩,⟨some 36, .bin .neq (.t 35) (.c (.int .i64 5)), (some (34, true))⟩,⟨some 37, .pick (.t 34) (.t 36) (.c (.bool false)), none⟩,.m 38 37,⟨some 39, .move false (.t 2), (some (38, true))⟩,⟨some 40, .len (.t 39), (some (38, true))⟩,⟨some 41, .bin .neq (.t 40) (.c (.int .i64 0)), (some (38, true))⟩,⟨some 42, .pick (.t 38) (.t 41) (.c (.bool false)), none⟩,.m 31 42]) (
  .cond (.t 31) (.seq (.region [⟨some 6, .move false (.c (.int .i64 3)), none⟩]) (
  .ret)) (.skip)))))))) (
  .seq (.region [.m 43 2,⟨some 44, .call true F.gantref5_CellsFault [(.t 43)], none⟩,.m 6 44]) (
  .ret)))
def R.gantref5_EventFault : List ARes := [.t 6]
set_option maxRecDepth 100000 in
theorem K.gantref5_EventFault : ckFun Try.prog Try.f116 C.gantref5_EventFault R.gantref5_EventFault = true := by kernel_rfl
def C.gantref5_SetOf : ACode :=
  .seq (.region [⟨some 2, .move false (.c .nilmap), none⟩]) (
  .seq (.region [⟨some 6, .hop .mkmap, none⟩,.m 3 6]) (
  .seq (.seq (.region [.m 7 0,⟨some 8, .len (.t 7), none⟩,⟨some 9, .move false (.c (.int .i64 0)), none⟩]) (
  .block 0 (.loop (.seq (.region [⟨some 10, .bin .lss (.t 9) (.t 8), none⟩]) (
  .seq (.cond (.t 10) (.skip) (.exit 0)) (
  .seq (.block 1 (.seq (.region [⟨some 11, .iaddr 2 (.t 7) (.t 9), none⟩,⟨some 12, .load 2 true 2 (.t 11), none⟩,⟨some 5, .alloc false [(.int .i64 0), (.int .i64 0)], none⟩,⟨none, .store 2 (.t 5) (.t 12), none⟩]) (
  .region [.m 13 3,⟨some 14, .load 2 true 2 (.t 5), none⟩,⟨none, .hop (.mapset true [.i .i64, .i .i64] (.t 13) (.t 14) (.c (.bool true))), none⟩]))) (
  .region [⟨some 15, .bin .add (.t 9) (.c (.int .i64 1)), none⟩,.m 9 15]))))))) (
  .seq (.region [.m 16 3,.m 2 16]) (
  .ret))))
def R.gantref5_SetOf : List ARes := [.t 2]
set_option maxRecDepth 100000 in
theorem K.gantref5_SetOf : ckFun Try.prog Try.f107 C.gantref5_SetOf R.gantref5_SetOf = true := by kernel_rfl
def C.gantref5_Set_List : ACode :=
  .seq (.region [⟨some 2, .move false (.c (.lst .nil [])), none⟩]) (
  .seq (.region [⟨some 3, .move false (.c (.lst .nil [])), none⟩]) (
  .seq (.seq (.region [⟨some 4, .move false (.c (.int .i64 (-64))), none⟩]) (
  .block 0 (.loop (.seq (.seq (.region [.m 6 4,⟨some 7, .bin .lss (.t 6) (.c (.int .i64 64)), none⟩]) (
  .cond (.t 7) (.skip) (.exit 0))) (
  .seq (.block 1 (.seq (.region [⟨some 5, .move false (.c (.int .i64 (-64))), none⟩]) (
  .block 2 (.loop (.seq (.seq (.region [.m 10 5,⟨some 11, .bin .lss (.t 10) (.c (.int .i64 64)), none⟩]) (
  .cond (.t 11) (.skip) (.exit 2))) (
  .seq (.block 3 (.seq (.region [.m 14 0,.m 15 5,.m 16 4,⟨some 17, .build [(.int .i64 0), (.int .i64 0)] [(0, 1, (.t 15)), (1, 1, (.t 16))], none⟩,⟨some 18, .mlook false true [.i .i64, .i .i64] (.bool false) (.t 14) (.t 17), none⟩]) (
  .cond (.t 18) (.region [⟨some 19, .move true (.t 3), none⟩,.m 20 5,.m 21 4,⟨some 22, .build [(.int .i64 0), (.int .i64 0)] [(0, 1, (.t 20)), (1, 1, (.t 21))], none⟩,⟨some 23, .buildS false 2 [(.t 22)], none⟩,⟨some 24, .append 2 16 (.t 19) (.t 23), none⟩,⟨some 3, .move true (.t 24), none⟩]) (.skip)))) (
  .region [.m 12 5,⟨some 13, .bin .add (.t 12) (.c (.int .i64 1)), none⟩,.m 5 13]))))))) (
  .region [.m 8 4,⟨some 9, .bin .add (.t 8) (.c (.int .i64 1)), none⟩,.m 4 9])))))) (
  .seq (.region [⟨some 25, .move true (.t 3), none⟩,⟨some 2, .move true (.t 25), none⟩]) (
  .ret))))
def R.gantref5_Set_List : List ARes := [.t 2]
set_option maxRecDepth 100000 in
theorem K.gantref5_Set_List : ckFun Try.prog Try.f141 C.gantref5_Set_List R.gantref5_Set_List = true := by kernel_rfl
def C.gantref5_Happens : ACode :=
  .seq (.region [⟨some 4, .bx true (.t 0), none⟩,⟨some 8, .alloc false [(.int .i64 0), (.int .i64 0), (.int .i64 0), (.lst .nil []), (.lst .nil [])], none⟩,⟨some 9, .move false (.c (.int .i64 0)), none⟩]) (
  .seq (.seq (.region [⟨some 18, .load 2 true 5 (.t 4), none⟩,⟨some 19, .call true F.gantref5_MemFault [(.t 18)], none⟩,.m 10 19]) (
  .seq (.region [.m 20 10,⟨some 21, .bin .neq (.t 20) (.c (.int .i64 0)), none⟩]) (
  .cond (.t 21) (.seq (.region [⟨some 22, .build [(.int .i64 0), (.int .i64 0), (.int .i64 0), (.lst .nil []), (.lst .nil [])] [], none⟩,.m 23 10,⟨none, .store 5 (.t 8) (.t 22), none⟩,.m 9 23]) (
  .ret)) (.skip)))) (
  .seq (.region [⟨some 24, .faddr 4 (.t 4), none⟩,⟨some 25, .load 2 false 1 (.t 24), none⟩,⟨some 26, .call true F.gantref5_SetOf [(.t 25)], none⟩,.m 11 26]) (
  .seq (.seq (.region [.m 27 1]) (
  .block 0 (.seq (.region [⟨some 29, .bin .eql (.t 27) (.c (.int .i64 1)), none⟩,.m 28 29]) (
  .cond (.t 28) (.region [.m 30 2,⟨some 31, .faddr 0 (.t 4), none⟩,⟨none, .store 1 (.t 31) (.t 30), none⟩,⟨some 32, .faddr 1 (.t 4), none⟩,⟨none, .store 1 (.t 32) (.c (.int .i64 0)), none⟩]) (.seq (.region [⟨some 34, .bin .eql (.t 27) (.c (.int .i64 2)), none⟩,.m 33 34]) (
  .cond (.t 33) (.seq (.seq (.region [⟨some 35, .faddr 1 (.t 4), none⟩,⟨some 36, .load 2 false 1 (.t 35), none⟩,⟨some 37, .bin .gtr (.t 36) (.c (.int .i64 1999)), none⟩]) (
  .cond (.t 37) (.seq (.region [⟨some 38, .build [(.int .i64 0), (.int .i64 0), (.int .i64 0), (.lst .nil []), (.lst .nil [])] [], none⟩,⟨none, .store 5 (.t 8) (.t 38), none⟩,⟨some 9, .move false (.c (.int .i64 19)), none⟩]) (
  .ret)) (.skip))) (
  .region [⟨some 39, .faddr 1 (.t 4), none⟩,⟨some 40, .load 2 false 1 (.t 39), none⟩,⟨some 41, .bin .add (.t 40) (.c (.int .i64 1)), none⟩,⟨some 42, .faddr 1 (.t 4), none⟩,⟨none, .store 1 (.t 42) (.t 41), none⟩])) (.seq (.region [⟨some 44, .bin .eql (.t 27) (.c (.int .i64 3)), none⟩,.m 43 44]) (
  .cond (.t 43) (.seq (.seq (.region [⟨some 45, .faddr 3 (.t 4), none⟩,⟨some 46, .load 2 false 1 (.t 45), none⟩,⟨some 47, .len (.t 46), none⟩,⟨some 48, .bin .neq (.t 47) (.c (.int .i64 0)), none⟩]) (
  .cond (.t 48) (.seq (.region [⟨some 49, .build [(.int .i64 0), (.int .i64 0), (.int .i64 0), (.lst .nil []), (.lst .nil [])] [], none⟩,⟨none, .store 5 (.t 8) (.t 49), none⟩,⟨some 9, .move false (.c (.int .i64 7)), none⟩]) (
  .ret)) (.skip))) (
  .seq (.region [.m 50 3,⟨some 51, .call true F.gantref5_SetOf [(.t 50)], none⟩,.m 12 51]) (
  .seq (.seq (.region [.m 52 11,⟨some 53, .hop (.mrange (.t 52)), none⟩]) (
  .block 1 (.loop (.seq (.region [⟨some 54, .hop (.mnext (.t 53)), none⟩,⟨some 55, .ext 0 (.t 54), none⟩]) (
  .seq (.cond (.t 55) (.skip) (.exit 1)) (
  .block 2 (.seq (.region [⟨some 56, .hop (.mentry (.t 53)), none⟩,⟨some 57, .extT 0 56, none⟩,⟨some 13, .alloc false [(.int .i64 0), (.int .i64 0)], none⟩,⟨none, .store 2 (.t 13) (.t 57), none⟩]) (
  .region [.m 58 12,⟨some 59, .load 2 true 2 (.t 13), none⟩,⟨none, .hop (.mapdel true [.i .i64, .i .i64] (.t 58) (.t 59)), none⟩])))))))) (
  .region [.m 60 12,⟨some 61, .call true F.gantref5_Set_List [(.t 60)], none⟩,⟨some 62, .faddr 3 (.t 4), none⟩,⟨none, .store 1 (.t 62) (.t 61), none⟩])))) (.seq (.region [⟨some 64, .bin .eql (.t 27) (.c (.int .i64 4)), none⟩,.m 63 64]) (
  .cond (.t 63) (.seq (.seq (.region [⟨some 65, .faddr 3 (.t 4), none⟩,⟨some 66, .load 2 false 1 (.t 65), none⟩,⟨some 67, .len (.t 66), none⟩,⟨some 68, .move false (.c (.int .i64 0)), none⟩]) (
  .block 3 (.loop (.seq (.region [⟨some 69, .bin .lss (.t 68) (.t 67), none⟩]) (
  .seq (.cond (.t 69) (.skip) (.exit 3)) (
  .seq (.block 4 (.seq (.region [⟨some 70, .iaddr 2 (.t 66) (.t 68), none⟩,⟨some 71, .load 2 true 2 (.t 70), none⟩,⟨some 15, .alloc false [(.int .i64 0), (.int .i64 0)], none⟩,⟨none, .store 2 (.t 15) (.t 71), none⟩]) (
  .region [.m 72 11,⟨some 73, .load 2 true 2 (.t 15), none⟩,⟨none, .hop (.mapset true [.i .i64, .i .i64] (.t 72) (.t 73) (.c (.bool true))), none⟩]))) (
  .region [⟨some 74, .bin .add (.t 68) (.c (.int .i64 1)), none⟩,.m 68 74]))))))) (
  .seq (.seq (.region [.m 75 11,⟨some 76, .mlen (.t 75), none⟩,⟨some 77, .bin .gtr (.t 76) (.c (.int .i64 400)), none⟩]) (
  .cond (.t 77) (.seq (.region [⟨some 78, .build [(.int .i64 0), (.int .i64 0), (.int .i64 0), (.lst .nil []), (.lst .nil [])] [], none⟩,⟨none, .store 5 (.t 8) (.t 78), none⟩,⟨some 9, .move false (.c (.int .i64 6)), none⟩]) (
  .ret)) (.skip))) (
  .region [.m 79 11,⟨some 80, .call true F.gantref5_Set_List [(.t 79)], none⟩,⟨some 81, .faddr 4 (.t 4), none⟩,⟨none, .store 1 (.t 81) (.t 80), none⟩,⟨some 82, .faddr 3 (.t 4), none⟩,⟨none, .store 1 (.t 82) (.c (.lst .nil [])), none⟩]))) (.seq (.region [⟨some 84, .bin .eql (.t 27) (.c (.int .i64 5)), none⟩,.m 83 84]) (
  .cond (.t 83) (.seq (.seq (.region [.m 85 3,⟨some 86, .len (.t 85), none⟩,⟨some 87, .move false (.c (.int .i64 0)), none⟩]) (
  .block 5 (.loop (.seq (.region [⟨some 88, .bin .lss (.t 87) (.t 86), none⟩]) (
  .seq (.cond (.t 88) (.skip) (.exit 5)) (
  .seq (.block 6 (.seq (.region [⟨some 89, .iaddr 2 (.t 85) (.t 87), none⟩,⟨some 90, .load 2 true 2 (.t 89), none⟩,⟨some 17, .alloc false [(.int .i64 0), (.int .i64 0)], none⟩,⟨none, .store 2 (.t 17) (.t 90), none⟩]) (
  .seq (.seq (.region [.m 91 11,⟨some 92, .load 2 true 2 (.t 17), none⟩,⟨some 93, .mlook false true [.i .i64, .i .i64] (.bool false) (.t 91) (.t 92), none⟩,⟨some 94, .un .not (.t 93), none⟩]) (
  .cond (.t 94) (.seq (.region [⟨some 95, .build [(.int .i64 0), (.int .i64 0), (.int .i64 0), (.lst .nil []), (.lst .nil [])] [], none⟩,⟨none, .store 5 (.t 8) (.t 95), none⟩,⟨some 9, .move false (.c (.int .i64 4)), none⟩]) (
  .ret)) (.skip))) (
  .region [.m 96 11,⟨some 97, .load 2 true 2 (.t 17), none⟩,⟨none, .hop (.mapdel true [.i .i64, .i .i64] (.t 96) (.t 97)), none⟩])))) (
  .region [⟨some 98, .bin .add (.t 87) (.c (.int .i64 1)), none⟩,.m 87 98]))))))) (
  .region [.m 99 11,⟨some 100, .call true F.gantref5_Set_List [(.t 99)], none⟩,⟨some 101, .faddr 4 (.t 4), none⟩,⟨none, .store 1 (.t 101) (.t 100), none⟩])) (.seq (.region [⟨some 103, .bin .eql (.t 27) (.c (.int .i64 6)), none⟩,.m 102 103]) (
  .cond (.t 102) (.region [⟨some 104, .faddr 2 (.t 4), none⟩,⟨some 105, .load 2 false 1 (.t 104), none⟩,⟨some 106, .bin .add (.t 105) (.c (.int .i64 1)), none⟩,⟨some 107, .faddr 2 (.t 4), none⟩,⟨none, .store 1 (.t 107) (.t 106), none⟩]) (.skip))))))))))))))) (
  .seq (.region [⟨some 108, .load 2 true 5 (.t 4), none⟩,⟨none, .store 5 (.t 8) (.t 108), none⟩,⟨some 9, .move false (.c (.int .i64 0)), none⟩]) (
  .ret)))))
def R.gantref5_Happens : List ARes := [.c 8 true 5, .t 9]
set_option maxRecDepth 100000 in
theorem K.gantref5_Happens : ckFun Try.prog Try.f122 C.gantref5_Happens R.gantref5_Happens = true := by kernel_rfl
def C.gantref5_EventBytes : ACode :=
  .seq (.region [⟨some 6, .move false (.c (.lst .nil [])), none⟩]) (
  .seq (.region [.m 10 0,⟨some 11, .conv .u8 (.t 10), none⟩,⟨some 12, .buildS false 1 [(.t 11)], none⟩,.m 13 1,⟨some 14, .conv .u64 (.t 13), none⟩,⟨some 15, .call true F.gantref5_Bytes [(.t 14), (.c (.int .i64 4))], none⟩,⟨some 16, .append 1 1 (.t 12) (.t 15), none⟩,⟨some 7, .move true (.t 16), none⟩]) (
  .seq (.seq (.region [.m 17 2,⟨some 18, .len (.t 17), none⟩,⟨some 19, .move false (.c (.int .i64 0)), none⟩]) (
  .block 0 (.loop (.seq (.region [⟨some 20, .bin .lss (.t 19) (.t 18), none⟩]) (
  .seq (.cond (.t 20) (.skip) (.exit 0)) (
  .seq (.block 1 (.seq (.region [⟨some 21, .iaddr 2 (.t 17) (.t 19), none⟩,⟨some 22, .load 2 true 2 (.t 21), none⟩,⟨some 9, .alloc false [(.int .i64 0), (.int .i64 0)], none⟩,⟨none, .store 2 (.t 9) (.t 22), none⟩]) (
  .region [⟨some 23, .move true (.t 7), none⟩,⟨some 24, .faddr 0 (.t 9), none⟩,⟨some 25, .load 2 false 1 (.t 24), none⟩,⟨some 26, .bin .add (.t 25) (.c (.int .i64 64)), none⟩,⟨some 27, .conv .u8 (.t 26), none⟩,⟨some 28, .faddr 1 (.t 9), none⟩,⟨some 29, .load 2 false 1 (.t 28), none⟩,⟨some 30, .bin .add (.t 29) (.c (.int .i64 64)), none⟩,⟨some 31, .conv .u8 (.t 30), none⟩,⟨some 32, .buildS false 1 [(.t 27), (.t 31)], none⟩,⟨some 33, .append 1 1 (.t 23) (.t 32), none⟩,⟨some 7, .move true (.t 33), none⟩]))) (
  .region [⟨some 34, .bin .add (.t 19) (.c (.int .i64 1)), none⟩,.m 19 34]))))))) (
  .seq (.region [⟨some 35, .move true (.t 7), none⟩,⟨some 6, .move true (.t 35), none⟩]) (
  .ret))))
def R.gantref5_EventBytes : List ARes := [.t 6]
set_option maxRecDepth 100000 in
theorem K.gantref5_EventBytes : ckFun Try.prog Try.f119 C.gantref5_EventBytes R.gantref5_EventBytes = true := by kernel_rfl
end Go.Proofs.Ytpdajkbfemcdlaa
namespace Go.Proofs.Ytpdajkbfemcdlaa
open Go.Ge
def C.gantlaw5_FallKeeps : ACode :=
  .seq (.region [⟨some 6, .bx true (.t 0), none⟩,⟨some 7, .bx true (.t 1), none⟩,⟨some 12, .move false (.c (.bool false)), none⟩]) (
  .seq (.seq (.region [⟨some 29, .build [(.int .i64 0), (.int .i64 0), (.lst .nil []), (.lst .nil []), (.int .i64 0)] [], none⟩,⟨some 30, .call true F.fall_Hello [(.t 29), (.c (.int .i64 1)), (.c (.int .i64 0)), (.c (.int .u32 0))], none⟩,.m 28 30,⟨some 31, .ext 0 (.t 28), none⟩,⟨some 32, .ext 1 (.t 28), none⟩,.m 13 31,.m 14 32]) (
  .seq (.region [.m 33 14,⟨some 34, .bin .neq (.t 33) (.c (.int .i64 0)), none⟩,.m 35 34,⟨some 36, .move false (.t 13), (some (35, false))⟩,⟨some 37, .len (.t 36), (some (35, false))⟩,⟨some 38, .bin .neq (.t 37) (.c (.int .i64 1)), (some (35, false))⟩,⟨some 39, .pick (.t 35) (.c (.bool true)) (.t 38), none⟩]) (
  .cond (.t 39) (.seq (.region [⟨some 12, .move false (.c (.bool false)), none⟩]) (
  .ret)) (.skip)))) (
  .seq (.region [⟨some 41, .load 2 true 5 (.t 6), none⟩,.m 42 2,⟨some 43, .load 2 true 3 (.t 7), none⟩,⟨some 44, .call true F.fall_Keep [(.t 41), (.t 42), (.t 43)], none⟩,⟨some 40, .moveX 44, none⟩,⟨some 45, .extT 0 40, none⟩,⟨some 46, .ext 1 (.t 40), none⟩,⟨some 47, .ext 2 (.t 40), none⟩,⟨some 15, .alloc false [(.int .i64 0), (.int .i64 0), (.lst .nil []), (.lst .nil []), (.int .i64 0)], none⟩,⟨none, .store 5 (.t 15) (.t 45), none⟩,.m 16 46,.m 17 47]) (
  .seq (.region [⟨some 48, .faddr 0 (.t 7), none⟩,⟨some 49, .load 2 false 1 (.t 48), none⟩,⟨some 50, .faddr 1 (.t 7), none⟩,⟨some 51, .load 2 false 1 (.t 50), none⟩,⟨some 52, .faddr 2 (.t 7), none⟩,⟨some 53, .load 2 false 1 (.t 52), none⟩,⟨some 54, .call true F.gantref5_EventFault [(.t 49), (.t 51), (.t 53)], none⟩,.m 18 54]) (
  .seq (.region [⟨some 55, .faddr 0 (.t 6), none⟩,⟨some 56, .load 2 false 1 (.t 55), none⟩,⟨some 57, .faddr 1 (.t 6), none⟩,⟨some 58, .load 2 false 1 (.t 57), none⟩,⟨some 59, .faddr 4 (.t 6), none⟩,⟨some 60, .load 2 false 1 (.t 59), none⟩,⟨some 61, .faddr 2 (.t 6), none⟩,⟨some 62, .load 2 false 1 (.t 61), none⟩,⟨some 63, .faddr 3 (.t 6), none⟩,⟨some 64, .load 2 false 1 (.t 63), none⟩,⟨some 65, .build [(.int .i64 0), (.int .i64 0), (.int .i64 0), (.lst .nil []), (.lst .nil [])] [(0, 1, (.t 56)), (1, 1, (.t 58)), (2, 1, (.t 60)), (3, 1, (.t 62)), (4, 1, (.t 64))], none⟩,⟨some 19, .alloc false [(.int .i64 0), (.int .i64 0), (.int .i64 0), (.lst .nil []), (.lst .nil [])], none⟩,⟨none, .store 5 (.t 19) (.t 65), none⟩]) (
  .seq (.seq (.region [.m 66 18,⟨some 67, .bin .eql (.t 66) (.c (.int .i64 0)), none⟩]) (
  .cond (.t 67) (.region [⟨some 69, .load 2 true 5 (.t 19), none⟩,⟨some 70, .faddr 0 (.t 7), none⟩,⟨some 71, .load 2 false 1 (.t 70), none⟩,⟨some 72, .faddr 1 (.t 7), none⟩,⟨some 73, .load 2 false 1 (.t 72), none⟩,⟨some 74, .faddr 2 (.t 7), none⟩,⟨some 75, .load 2 false 1 (.t 74), none⟩,⟨some 76, .call true F.gantref5_Happens [(.t 69), (.t 71), (.t 73), (.t 75)], none⟩,⟨some 68, .moveX 76, none⟩,⟨some 77, .extT 0 68, none⟩,⟨some 78, .ext 1 (.t 68), none⟩,⟨none, .store 5 (.t 19) (.t 77), none⟩,.m 18 78]) (.skip))) (
  .seq (.region [.m 80 2,⟨some 81, .call true F.gantref5_Records [(.t 80)], none⟩,.m 79 81,⟨some 82, .ext 0 (.t 79), none⟩,⟨some 83, .ext 1 (.t 79), none⟩,.m 20 82,.m 21 83]) (
  .seq (.region [⟨some 84, .faddr 0 (.t 7), none⟩,⟨some 85, .load 2 false 1 (.t 84), none⟩,⟨some 86, .faddr 1 (.t 7), none⟩,⟨some 87, .load 2 false 1 (.t 86), none⟩,⟨some 88, .faddr 2 (.t 7), none⟩,⟨some 89, .load 2 false 1 (.t 88), none⟩,⟨some 90, .call true F.gantref5_EventBytes [(.t 85), (.t 87), (.t 89)], none⟩,.m 22 90]) (
  .seq (.seq (.region [.m 91 18,⟨some 92, .bin .eql (.t 91) (.c (.int .i64 0)), none⟩,.m 93 92,⟨some 94, .move false (.t 21), (some (93, true))⟩,⟨some 95, .bin .add (.t 94) (.c (.int .i64 6)), (some (93, true))⟩,⟨some 96, .move false (.t 22), (some (93, true))⟩,⟨some 97, .len (.t 96), (some (93, true))⟩,⟨some 98, .bin .add (.t 95) (.t 97), (some (93, true))⟩,⟨some 99, .bin .gtr (.t 98) (.c (.int .i64 100000)), (some (93, true))⟩,⟨some 100, .pick (.t 93) (.t 99) (.c (.bool false)), none⟩]) (
  .cond (.t 100) (.region [⟨some 18, .move false (.c (.int .i64 6)), none⟩]) (.skip))) (
  .seq (.seq (.region [.m 101 18,⟨some 102, .bin .neq (.t 101) (.c (.int .i64 0)), none⟩]) (
  .cond (.t 102) (.seq (.region [.m 103 17,.m 104 18,⟨some 105, .bin .eql (.t 103) (.t 104), none⟩,.m 106 105,⟨some 107, .move false (.t 16), (some (106, true))⟩,⟨some 108, .len (.t 107), (some (106, true))⟩,⟨some 109, .bin .eql (.t 108) (.c (.int .i64 0)), (some (106, true))⟩,⟨some 110, .pick (.t 106) (.t 109) (.c (.bool false)), none⟩,.m 111 110,⟨some 112, .load 2 true 5 (.t 15), (some (111, true))⟩,⟨some 113, .build [(.int .i64 0), (.int .i64 0), (.lst .nil []), (.lst .nil []), (.int .i64 0)] [], (some (111, true))⟩,⟨some 114, .call true F.fall_Same [(.t 112), (.t 113)], (some (111, true))⟩,⟨some 115, .pick (.t 111) (.t 114) (.c (.bool false)), none⟩,.m 12 115]) (
  .ret)) (.skip))) (
  .seq (.seq (.region [.m 116 17,⟨some 117, .bin .neq (.t 116) (.c (.int .i64 0)), none⟩,.m 118 117,⟨some 119, .faddr 0 (.t 15), (some (118, false))⟩,⟨some 120, .load 2 false 1 (.t 119), (some (118, false))⟩,⟨some 121, .faddr 0 (.t 19), (some (118, false))⟩,⟨some 122, .load 2 false 1 (.t 121), (some (118, false))⟩,⟨some 123, .bin .neq (.t 120) (.t 122), (some (118, false))⟩,⟨some 124, .pick (.t 118) (.c (.bool true)) (.t 123), none⟩,.m 125 124,⟨some 126, .faddr 1 (.t 15), (some (125, false))⟩,⟨some 127, .load 2 false 1 (.t 126), (some (125, false))⟩,⟨some 128, .faddr 1 (.t 19), (some (125, false))⟩,⟨some 129, .load 2 false 1 (.t 128), (some (125, false))⟩,⟨some 130, .bin .neq (.t 127) (.t 129), (some (125, false))⟩,⟨some 131, .pick (.t 125) (.c (.bool true)) (.t 130), none⟩,.m 132 131,⟨some 133, .faddr 4 (.t 15), (some (132, false))⟩,⟨some 134, .load 2 false 1 (.t 133), (some (132, false))⟩,⟨some 135, .faddr 2 (.t 19), (some (132, false))⟩,⟨some 136, .load 2 false 1 (.t 135), (some (132, false))⟩,⟨some 137, .bin .neq (.t 134) (.t 136), (some (132, false))⟩,⟨some 138, .pick (.t 132) (.c (.bool true)) (.t 137), none⟩,.m 139 138,⟨some 140, .faddr 2 (.t 15), (some (139, false))⟩,⟨some 141, .load 2 false 1 (.t 140), (some (139, false))⟩,⟨some 142, .faddr 3 (.t 19), (some (139, false))⟩,⟨some 143, .load 2 false 1 (.t 142), (some (139, false))⟩,⟨some 144, .call true F.slices_Equal_Cell [(.t 141), (.t 143)], (some (139, false))⟩,⟨some 145, .un .not (.t 144), (some (139, false))⟩,⟨some 146, .pick (.t 139) (.c (.bool true)) (.t 145), none⟩,.m 147 146,⟨some 148, .faddr 3 (.t 15), (some (147, false))⟩,⟨some 149, .load 2 false 1 (.t 148), (some (147, false))⟩,⟨some 150, .faddr 4 (.t 19), (some (147, false))⟩,⟨some 151, .load 2 false 1 (.t 150), (some (147, false))⟩,⟨some 152, .call true F.slices_Equal_Cell [(.t 149), (.t 151)], (some (147, false))⟩,⟨some 153, .un .not (.t 152), (some (147, false))⟩,⟨some 154, .pick (.t 147) (.c (.bool true)) (.t 153), none⟩,.m 155 154,⟨some 156, .move false (.t 16), (some (155, false))⟩,⟨some 157, .move false (.t 20), (some (155, false))⟩,⟨some 158, .call true F.slices_Clone_bs [(.t 157)], (some (155, false))⟩,⟨some 159, .move false (.t 22), (some (155, false))⟩,⟨some 160, .buildS false 1 [(.t 159)], (some (155, false))⟩,⟨some 161, .append 1 24 (.t 158) (.t 160), (some (155, false))⟩,⟨some 162, .call true F.gantref5_Book [(.t 161)], (some (155, false))⟩,⟨some 163, .call true F.slices_Equal_byte [(.t 156), (.t 162)], (some (155, false))⟩,⟨some 164, .un .not (.t 163), (some (155, false))⟩,⟨some 165, .pick (.t 155) (.c (.bool true)) (.t 164), none⟩]) (
  .cond (.t 165) (.seq (.region [⟨some 12, .move false (.c (.bool false)), none⟩]) (
  .ret)) (.skip))) (
  .seq (.region [⟨some 167, .load 2 true 5 (.t 6), none⟩,.m 168 3,.m 169 4,.m 170 5,⟨some 171, .call true F.fall_Hello [(.t 167), (.t 168), (.t 169), (.t 170)], none⟩,.m 166 171,⟨some 172, .ext 0 (.t 166), none⟩,⟨some 173, .ext 1 (.t 166), none⟩,.m 23 172,.m 24 173]) (
  .seq (.region [.m 174 3,.m 175 4,.m 176 5,⟨some 177, .build [(.int .i64 0), (.int .i64 0), (.int .i64 0), (.int .i64 0), (.int .u32 0), (.lst .nil [])] [(0, 1, (.c (.int .i64 3))), (1, 1, (.t 174)), (2, 1, (.c (.int .i64 4))), (3, 1, (.t 175)), (4, 1, (.t 176))], none⟩,⟨some 25, .alloc false [(.int .i64 0), (.int .i64 0), (.int .i64 0), (.int .i64 0), (.int .u32 0), (.lst .nil [])], none⟩,⟨none, .store 6 (.t 25) (.t 177), none⟩]) (
  .seq (.region [⟨some 178, .load 2 true 6 (.t 25), none⟩,⟨some 179, .buildS false 6 [(.t 178)], none⟩,⟨some 26, .move true (.t 179), none⟩]) (
  .seq (.seq (.region [⟨some 180, .faddr 2 (.t 6), none⟩,⟨some 181, .load 2 false 1 (.t 180), none⟩,⟨some 182, .len (.t 181), none⟩,⟨some 183, .bin .gtr (.t 182) (.c (.int .i64 0)), none⟩]) (
  .cond (.t 183) (.region [⟨some 184, .move true (.t 26), none⟩,.m 185 3,.m 186 4,.m 187 5,⟨some 188, .faddr 2 (.t 6), none⟩,⟨some 189, .load 2 false 1 (.t 188), none⟩,⟨some 190, .build [(.int .i64 0), (.int .i64 0), (.int .i64 0), (.int .i64 0), (.int .u32 0), (.lst .nil [])] [(0, 1, (.c (.int .i64 0))), (1, 1, (.t 185)), (2, 1, (.c (.int .i64 4))), (3, 1, (.t 186)), (4, 1, (.t 187)), (5, 1, (.t 189))], none⟩,⟨some 191, .buildS false 6 [(.t 190)], none⟩,⟨some 192, .append 6 64 (.t 184) (.t 191), none⟩,.m 26 192]) (.skip))) (
  .seq (.region [⟨some 193, .load 2 true 6 (.t 25), none⟩,⟨some 194, .call true F.gantref5_MsgFault [(.t 193)], none⟩,.m 27 194]) (
  .seq (.seq (.region [.m 195 27,⟨some 196, .bin .eql (.t 195) (.c (.int .i64 0)), none⟩]) (
  .cond (.t 196) (.region [⟨some 197, .faddr 2 (.t 6), none⟩,⟨some 198, .load 2 false 1 (.t 197), none⟩,⟨some 199, .call true F.gantref5_CellsFault [(.t 198)], none⟩,.m 27 199]) (.skip))) (
  .seq (.seq (.region [.m 200 27,⟨some 201, .bin .neq (.t 200) (.c (.int .i64 0)), none⟩]) (
  .cond (.t 201) (.seq (.region [.m 202 24,.m 203 27,⟨some 204, .bin .eql (.t 202) (.t 203), none⟩,.m 205 204,⟨some 206, .move false (.t 23), (some (205, true))⟩,⟨some 207, .len (.t 206), (some (205, true))⟩,⟨some 208, .bin .eql (.t 207) (.c (.int .i64 0)), (some (205, true))⟩,⟨some 209, .pick (.t 205) (.t 208) (.c (.bool false)), none⟩,.m 12 209]) (
  .ret)) (.skip))) (
  .seq (.region [.m 210 24,⟨some 211, .bin .eql (.t 210) (.c (.int .i64 0)), none⟩,.m 212 211,⟨some 213, .move false (.t 23), (some (212, true))⟩,⟨some 214, .move false (.t 26), (some (212, true))⟩,⟨some 215, .call true F.slices_EqualFunc_Msg [(.t 213), (.t 214), (.c (.func 48 []))], (some (212, true))⟩,⟨some 216, .pick (.t 212) (.t 215) (.c (.bool false)), none⟩,.m 12 216]) (
  .ret)))))))))))))))))))
def R.gantlaw5_FallKeeps : List ARes := [.t 12]
set_option maxRecDepth 100000 in
theorem K.gantlaw5_FallKeeps : ckFun Try.prog Try.f30 C.gantlaw5_FallKeeps R.gantlaw5_FallKeeps = true := by kernel_rfl
end Go.Proofs.Ytpdajkbfemcdlaa
namespace Go.Proofs.Ytpdajkbfemcdlaa
open Go.Ge
def C.fall_Hello : ACode :=
  .seq (.region [⟨some 4, .bx true (.t 0), none⟩,⟨some 8, .move false (.c (.lst .nil [])), none⟩,⟨some 9, .move false (.c (.int .i64 0)), none⟩]) (
  .seq (.region [.m 14 1,.m 15 2,.m 16 3,⟨some 17, .build [(.int .i64 0), (.int .i64 0), (.int .i64 0), (.int .i64 0), (.int .u32 0), (.lst .nil [])] [(0, 1, (.c (.int .i64 3))), (1, 1, (.t 14)), (2, 1, (.c (.int .i64 4))), (3, 1, (.t 15)), (4, 1, (.t 16))], none⟩,⟨some 18, .buildS false 6 [(.t 17)], none⟩,⟨some 10, .move true (.t 18), none⟩]) (
  .seq (.seq (.region [⟨some 19, .faddr 2 (.t 4), none⟩,⟨some 20, .load 2 false 1 (.t 19), none⟩,⟨some 21, .len (.t 20), none⟩,⟨some 22, .bin .gtr (.t 21) (.c (.int .i64 0)), none⟩]) (
  .cond (.t 22) (.region [⟨some 23, .move true (.t 10), none⟩,.m 24 1,.m 25 2,.m 26 3,⟨some 27, .faddr 2 (.t 4), none⟩,⟨some 28, .load 2 false 1 (.t 27), none⟩,⟨some 29, .call true F.slices_Clone_Cell [(.t 28)], none⟩,⟨some 30, .build [(.int .i64 0), (.int .i64 0), (.int .i64 0), (.int .i64 0), (.int .u32 0), (.lst .nil [])] [(0, 1, (.c (.int .i64 0))), (1, 1, (.t 24)), (2, 1, (.c (.int .i64 4))), (3, 1, (.t 25)), (4, 1, (.t 26)), (5, 1, (.t 29))], none⟩,⟨some 31, .buildS false 6 [(.t 30)], none⟩,⟨some 32, .append 6 64 (.t 23) (.t 31), none⟩,⟨some 10, .move true (.t 32), none⟩]) (.skip))) (
  .seq (.seq (.region [.m 33 10,⟨some 34, .len (.t 33), none⟩,⟨some 35, .move false (.c (.int .i64 0)), none⟩]) (
  .block 0 (.loop (.seq (.region [⟨some 36, .bin .lss (.t 35) (.t 34), none⟩]) (
  .seq (.cond (.t 36) (.skip) (.exit 0)) (
  .seq (.block 1 (.seq (.region [⟨some 37, .iaddr 6 (.t 33) (.t 35), none⟩,⟨some 38, .load 2 true 6 (.t 37), none⟩,⟨some 12, .alloc false [(.int .i64 0), (.int .i64 0), (.int .i64 0), (.int .i64 0), (.int .u32 0), (.lst .nil [])], none⟩,⟨none, .store 6 (.t 12) (.t 38), none⟩]) (
  .seq (.region [⟨some 39, .load 2 true 6 (.t 12), none⟩,⟨some 40, .call true F.msg_Check [(.t 39)], none⟩,.m 13 40]) (
  .seq (.region [.m 41 13,⟨some 42, .bin .neq (.t 41) (.c (.int .i64 0)), none⟩]) (
  .cond (.t 42) (.seq (.region [.m 43 13,⟨some 8, .move false (.c (.lst .nil [])), none⟩,.m 9 43]) (
  .ret)) (.skip)))))) (
  .region [⟨some 44, .bin .add (.t 35) (.c (.int .i64 1)), none⟩,.m 35 44]))))))) (
  .seq (.region [⟨some 45, .move true (.t 10), none⟩,⟨some 8, .move true (.t 45), none⟩,⟨some 9, .move false (.c (.int .i64 0)), none⟩]) (
  .ret)))))
def R.fall_Hello : List ARes := [.t 8, .t 9]
set_option maxRecDepth 100000 in
theorem K.fall_Hello : ckFun Try.prog Try.f57 C.fall_Hello R.fall_Hello = true := by kernel_rfl
def C.slices_EqualFunc_Msg : ACode :=
  .seq (.region [⟨some 6, .move false (.c (.bool false)), none⟩]) (
  .seq (.seq (.region [.m 10 0,⟨some 11, .len (.t 10), none⟩,.m 12 1,⟨some 13, .len (.t 12), none⟩,⟨some 14, .bin .neq (.t 11) (.t 13), none⟩]) (
  .cond (.t 14) (.seq (.region [⟨some 6, .move false (.c (.bool false)), none⟩]) (
  .ret)) (.skip))) (
  .seq (.seq (.region [.m 15 0,⟨some 16, .len (.t 15), none⟩,⟨some 17, .move false (.c (.int .i64 0)), none⟩]) (
  .block 0 (.loop (.seq (.region [⟨some 18, .bin .lss (.t 17) (.t 16), none⟩]) (
  .seq (.cond (.t 18) (.skip) (.exit 0)) (
  .seq (.block 1 (.seq (.region [.m 19 17,⟨some 20, .iaddr 6 (.t 15) (.t 17), none⟩,⟨some 21, .load 2 true 6 (.t 20), none⟩,⟨some 8, .alloc false [(.int .i64 0), (.int .i64 0), (.int .i64 0), (.int .i64 0), (.int .u32 0), (.lst .nil [])], none⟩,.m 7 19,⟨none, .store 6 (.t 8) (.t 21), none⟩]) (
  .seq (.region [.m 22 1,.m 23 7,⟨some 24, .iaddr 6 (.t 22) (.t 23), none⟩,⟨some 25, .load 2 true 6 (.t 24), none⟩,⟨some 9, .alloc false [(.int .i64 0), (.int .i64 0), (.int .i64 0), (.int .i64 0), (.int .u32 0), (.lst .nil [])], none⟩,⟨none, .store 6 (.t 9) (.t 25), none⟩]) (
  .seq (.region [.m 26 2,⟨some 27, .load 2 true 6 (.t 8), none⟩,⟨some 28, .load 2 true 6 (.t 9), none⟩,⟨some 29, .callv true (.t 26) [(.t 27), (.t 28)], none⟩,⟨some 30, .un .not (.t 29), none⟩]) (
  .cond (.t 30) (.seq (.region [⟨some 6, .move false (.c (.bool false)), none⟩]) (
  .ret)) (.skip)))))) (
  .region [⟨some 31, .bin .add (.t 17) (.c (.int .i64 1)), none⟩,.m 17 31]))))))) (
  .seq (.region [⟨some 6, .move false (.c (.bool true)), none⟩]) (
  .ret))))
def R.slices_EqualFunc_Msg : List ARes := [.t 6]
set_option maxRecDepth 100000 in
theorem K.slices_EqualFunc_Msg : ckFun Try.prog Try.f60 C.slices_EqualFunc_Msg R.slices_EqualFunc_Msg = true := by kernel_rfl
end Go.Proofs.Ytpdajkbfemcdlaa
set_option linter.unusedSimpArgs false
set_option linter.unusedVariables false
set_option maxRecDepth 10000
namespace Go.Proofs.Ytpdajkbfemcdlaa
open Go.Ge
def MsgOk (m : Msg) (x : AVal) : Prop := ∃ o, Rdn o m.Cells ∧ m.Cells.length * 16 ≤ reachBytes ∧ x = msgA o m
def MsgsOk : List Msg → List AVal → Prop
  | [], xs => xs = []
  | m :: l, xs => ∃ x ys, xs = x :: ys ∧ MsgOk m x ∧ MsgsOk l ys
theorem MsgsOk.length : ∀ {l : List Msg} {xs : List AVal}, MsgsOk l xs → xs.length = l.length
  | [], xs, h => by simp only [MsgsOk] at h; subst h; rfl
  | m :: l, xs, h => by
    simp only [MsgsOk] at h
    obtain ⟨x, ys, rfl, _, h⟩ := h
    simp [h.length]
theorem MsgsOk.at : ∀ {l : List Msg} {xs : List AVal}, MsgsOk l xs → ∀ (i : Nat) (hi : i < l.length), MsgOk l[i] (at_ xs (i : Int))
  | m :: l, xs, h, 0, _ => by
    simp only [MsgsOk] at h
    obtain ⟨x, ys, rfl, h1, h⟩ := h
    simpa [at_] using h1
  | m :: l, xs, h, i + 1, hi => by
    simp only [MsgsOk] at h
    obtain ⟨x, ys, rfl, h1, h⟩ := h
    have := h.at i (by simpa using hi)
    simpa [at_] using this
theorem EqualFunc_ok (o1 o2 : Own) (a b : List Msg) (xs ys : List AVal) (h1 : Rdo o1) (h2 : Rdo o2) (ha : MsgsOk a xs) (hb : MsgsOk b ys) (hl : a.length < 4611686018427387904) (hl2 : b.length < 4611686018427387904) (h : List HObj) :
    ACalls Try.prog F.slices_EqualFunc_Msg [.lst o1 xs, .lst o2 ys, .func F.gantlaw5_same []] h (fun r h' => r = .bool (decide (a = b)) ∧ h' = h) := by
  have la := ha.length
  have lb := hb.length
  refine ACalls.of_aw Try.func60 K.slices_EqualFunc_Msg (by simp [Try.f60]) ?_
  generalize hQ : retQ R.slices_EqualFunc_Msg _ = Q
  simp (disch := first | assumption | omega) only [C.slices_EqualFunc_Msg, go_sem, ↓reduceIte, Nat.reduceEqDiff, reduceCtorEq, reduceIte, Bool.true_and, int_bne]
  refine condG_ifn (fun hne => ?_) fun heq => ?_
  · simp (disch := first | assumption | omega) only [go_sem, Bool.true_and]
    subst hQ
    simp (disch := first | assumption | omega) only [R.slices_EqualFunc_Msg, go_sem, ↓reduceIte, reduceIte, Bool.true_and]
    have : a ≠ b := by rintro rfl; omega
    simp [this]
  · have he : a.length = b.length := by omega
    simp (disch := first | assumption | omega) only [go_sem, ↓reduceIte, reduceCtorEq, reduceIte, Bool.true_and]
    refine aw_count (fun d S => ∃ (i : Nat), i + d = a.length ∧ S.env 17 = .int .i64 i ∧ S.env 16 = .int .i64 xs.length ∧ S.env 15 = .lst o1 xs ∧ S.env 1 = .lst o2 ys ∧ S.env 2 = .func F.gantlaw5_same [] ∧ a.take i = b.take i ∧ S.heap = h) (n := a.length) ⟨0, by simp [go_sem]⟩ ?_
    rintro d S ⟨i, hi, e17, e16, e15, e1, e2, ht, eh⟩
    simp (disch := first | assumption | omega) only [e17, e16, go_sem, ↓reduceIte, reduceIte, Int.ofNat_lt, Bool.true_and]
    refine condG_if (fun hlt => ?_) fun hge => ?_
    · have hlt1 : i < a.length := by omega
      have hlt2 : i < b.length := by omega
      have hlt3 : i < xs.length := by omega
      have hlt4 : i < ys.length := by omega
      obtain ⟨p, hp, hpl, hx⟩ := ha.at i hlt1
      obtain ⟨q, hq, hql, hy⟩ := hb.at i hlt2
      have hp1 := hp.1
      have hq1 := hq.1
      unfold reachBytes at hpl hql
      simp (disch := first | assumption | omega) only [e17, e15, e1, e2, hx, hy, hlt3, hlt4, msgA, msgC, go_sem, ↓reduceIte, Nat.reduceEqDiff, Nat.reduceAdd, Nat.reduceLeDiff, reduceIte, Int.natCast_nonneg, Int.ofNat_lt, Int.reduceAdd, decide_true, Bool.true_and]
      refine callvG_ok (same_ok p q a[i] b[i] hp1 hq1 (by omega) (by omega) _) (by simp (disch := first | assumption | omega) only [go_sem]) ?_
      rintro _ _ ⟨rfl, hhh⟩
      rw [hhh]
      clear hhh
      by_cases hab : a[i] = b[i]
      · simp (disch := first | assumption | omega) only [e17, e16, e15, e1, e2, eh, hab, go_sem, ↓reduceIte, Nat.reduceEqDiff, reduceIte, decide_true, Bool.true_and]
        refine ⟨d - 1, by omega, i + 1, by omega, by simp, ?_⟩
        rw [List.take_add_one, List.take_add_one, ht, List.getElem?_eq_getElem hlt1, List.getElem?_eq_getElem hlt2, hab]
      · simp (disch := first | assumption | omega) only [hab, go_sem, ↓reduceIte, reduceIte, decide_false, Bool.true_and]
        subst hQ
        simp (disch := first | assumption | omega) only [R.slices_EqualFunc_Msg, go_sem, ↓reduceIte, reduceIte, Bool.true_and]
        have : a ≠ b := by rintro rfl; exact hab rfl
        simp [this, eh]
    · obtain rfl : i = a.length := by omega
      simp (disch := first | assumption | omega) only [go_sem, ↓reduceIte, reduceIte, Bool.true_and]
      subst hQ
      simp (disch := first | assumption | omega) only [R.slices_EqualFunc_Msg, go_sem, ↓reduceIte, reduceIte, Bool.true_and]
      rw [List.take_length, he, List.take_length] at ht
      simp [ht, eh]
end Go.Proofs.Ytpdajkbfemcdlaa
set_option linter.unusedSimpArgs false
set_option linter.unusedVariables false
set_option maxRecDepth 10000
namespace Go.Proofs.Ytpdajkbfemcdlaa
open Go.Ge
def beatOf (arm seq clock : Int) : Msg := ⟨3, arm, 4, seq, clock, []⟩
def askOf (m : Mem) (arm seq clock : Int) : Msg := ⟨0, arm, 4, seq, clock, m.Asked⟩
def helloL (m : Mem) (arm seq clock : Int) : List Msg := beatOf arm seq clock :: (if 0 < m.Asked.length then [askOf m arm seq clock] else [])
def firstF : List Msg → Int
  | [] => 0
  | m :: l => if checkF m ≠ 0 then checkF m else firstF l
theorem Hello_ok (o p : Own) (m : Mem) (arm seq clock : Int) (ho : Rdn o m.Asked) (hp : Rdn p m.Has) (hl : m.Asked.length * 16 ≤ reachBytes) (h : List HObj) :
    ACalls Try.prog F.fall_Hello [memA o p m, .int .i64 arm, .int .i64 seq, .int .u32 clock] h (fun r h' =>
      (∃ q xs, r = .tup [.lst q xs, .int .i64 (firstF (helloL m arm seq clock))] ∧ (firstF (helloL m arm seq clock) = 0 → q = .app 6 ∧ MsgsOk (helloL m arm seq clock) xs) ∧ (firstF (helloL m arm seq clock) ≠ 0 → q = .nil ∧ xs = [])) ∧ h' = h) := by
  have ho1 := ho.1
  have hp1 := hp.1
  refine ACalls.of_aw Try.func57 K.fall_Hello (by simp [Try.f57]) ?_
  generalize hQ : retQ R.fall_Hello _ = Q
  simp (disch := first | assumption | omega) only [C.fall_Hello, go_sem, ↓reduceIte, Nat.reduceEqDiff, reduceCtorEq, Nat.reduceAdd, Nat.reduceLeDiff, reduceIte, Int.reduceAdd, Int.reduceMul, Nat.reduceMul, Bool.true_and]
  simp (disch := first | assumption | omega) only [memA, memC, go_sem, Nat.reduceAdd, Int.reduceAdd, Bool.true_and]
  refine condG_if (fun h0 => ?_) fun h0 => ?_
  case' refine_1 =>
    simp (disch := first | assumption | omega) only [go_sem, ↓reduceIte, Nat.reduceEqDiff, reduceCtorEq, Nat.reduceAdd, Nat.reduceLeDiff, reduceIte, Int.reduceAdd, Bool.true_and]
    refine callG_ok (CloneCell_ok o m.Asked ho hl _) (by simp (disch := first | assumption | omega) only [go_sem]) ?_
    rintro _ _ ⟨⟨o', rfl, ho'⟩, hhh⟩
    rw [hhh]
    clear hhh
    have ho' : o' = .app 2 := by
      rcases ho' with ⟨rfl, e⟩ | rfl
      · rw [e] at h0; simp at h0
      · rfl
    subst ho'
    simp (disch := first | assumption | omega) only [go_sem, ↓reduceIte, Nat.reduceEqDiff, Nat.reduceAdd, Nat.reduceLeDiff, reduceIte, Int.reduceAdd, Int.reduceMul, Nat.reduceMul, Bool.true_and]
    obtain ⟨XS, hXS, hM⟩ : ∃ XS, XS = [msgA .nil (beatOf arm seq clock), msgA .sh (askOf m arm seq clock)] ∧ MsgsOk (helloL m arm seq clock) XS := by
      refine ⟨_, rfl, ?_⟩
      unfold helloL
      rw [if_pos (by omega)]
      exact ⟨_, _, rfl, ⟨.nil, ⟨.inr rfl, fun _ => rfl⟩, by simp [beatOf], rfl⟩, _, _, rfl, ⟨.sh, ⟨.inl rfl, fun h => by cases h⟩, hl, rfl⟩, rfl⟩
    have hlen : (helloL m arm seq clock).length = 2 := by unfold helloL; rw [if_pos (by omega)]; rfl
    refine aw_count (fun d S => ∃ (i : Nat), i + d = (helloL m arm seq clock).length ∧ S.env 35 = .int .i64 i ∧ S.env 34 = .int .i64 (helloL m arm seq clock).length ∧ S.env 33 = .lst .sh XS ∧ S.env 10 = .lst (.app 6) XS ∧ firstF (helloL m arm seq clock) = firstF ((helloL m arm seq clock).drop i) ∧ S.heap = h) (n := (helloL m arm seq clock).length) ⟨0, by simp [go_sem, hXS, hlen]; exact ⟨rfl, rfl⟩⟩ ?_
    have hlen : (helloL m arm seq clock).length ≤ 2 := by omega
    clear hXS
    revert XS hlen
    generalize helloL m arm seq clock = L at *
    intro XS hM hlen
  case' refine_2 =>
    simp (disch := first | assumption | omega) only [go_sem, ↓reduceIte, Nat.reduceEqDiff, reduceIte, Bool.true_and]
    obtain ⟨XS, hXS, hM⟩ : ∃ XS, XS = [msgA .nil (beatOf arm seq clock)] ∧ MsgsOk (helloL m arm seq clock) XS := by
      refine ⟨_, rfl, ?_⟩
      unfold helloL
      rw [if_neg (by omega)]
      exact ⟨_, _, rfl, ⟨.nil, ⟨.inr rfl, fun _ => rfl⟩, by simp [beatOf], rfl⟩, rfl⟩
    have hlen : (helloL m arm seq clock).length = 1 := by unfold helloL; rw [if_neg (by omega)]; rfl
    refine aw_count (fun d S => ∃ (i : Nat), i + d = (helloL m arm seq clock).length ∧ S.env 35 = .int .i64 i ∧ S.env 34 = .int .i64 (helloL m arm seq clock).length ∧ S.env 33 = .lst .sh XS ∧ S.env 10 = .lst (.app 6) XS ∧ firstF (helloL m arm seq clock) = firstF ((helloL m arm seq clock).drop i) ∧ S.heap = h) (n := (helloL m arm seq clock).length) ⟨0, by simp [go_sem, hXS, hlen]; rfl⟩ ?_
    have hlen : (helloL m arm seq clock).length ≤ 2 := by omega
    clear hXS
    revert XS hlen
    generalize helloL m arm seq clock = L at *
    intro XS hM hlen
  all_goals
    have lx := hM.length
    rintro d S ⟨i, hi, e35, e34, e33, e10, hf, eh⟩
    simp (disch := first | assumption | omega) only [e35, e34, go_sem, ↓reduceIte, reduceIte, Int.ofNat_lt, Bool.true_and]
    refine condG_if (fun hlt => ?_) fun hge => ?_
    · have hlt1 : i < L.length := by omega
      have hlt3 : i < XS.length := by omega
      obtain ⟨p', hp', hpl, hx⟩ := hM.at i hlt1
      have hp1' := hp'.1
      have hpl' := hpl
      unfold reachBytes at hpl'
      have hd : firstF (L.drop i) = if checkF L[i] ≠ 0 then checkF L[i] else firstF (L.drop (i + 1)) := by
        rw [List.drop_eq_getElem_cons hlt1]; rfl
      rw [hd] at hf
      simp (disch := first | assumption | omega) only [e35, e33, hx, hlt3, msgA, msgC, go_sem, ↓reduceIte, Nat.reduceEqDiff, Nat.reduceAdd, Nat.reduceLeDiff, reduceIte, Int.natCast_nonneg, Int.ofNat_lt, Int.reduceAdd, Bool.true_and]
      refine callG_ok (Check_ok p' L[i] hp1' (by omega) _) (by simp (disch := first | assumption | omega) only [go_sem]) ?_
      rintro _ _ ⟨rfl, hhh⟩
      try rw [hhh]
      clear hhh
      simp (disch := first | assumption | omega) only [go_sem, ↓reduceIte, reduceIte, Bool.true_and, int_bne]
      refine condG_ifn (fun hc => ?_) fun hc => ?_
      · simp (disch := first | assumption | omega) only [go_sem, ↓reduceIte, Nat.reduceEqDiff, reduceIte, Bool.true_and]
        subst hQ
        simp (disch := first | assumption | omega) only [R.fall_Hello, eh, go_sem, ↓reduceIte, Nat.reduceEqDiff, reduceIte, Bool.true_and]
        rw [if_pos hc] at hf
        exact ⟨.nil, [], by rw [hf], fun e => absurd (hf.symm.trans e) hc, fun _ => ⟨rfl, rfl⟩⟩
      · simp (disch := first | assumption | omega) only [e35, e34, e33, e10, eh, go_sem, ↓reduceIte, Nat.reduceEqDiff, reduceIte, Bool.true_and]
        rw [if_neg (by simp [hc])] at hf
        exact ⟨d - 1, by omega, i + 1, by omega, by simp, hf⟩
    · obtain rfl : i = L.length := by omega
      rw [List.drop_length, firstF] at hf
      simp (disch := first | assumption | omega) only [e10, go_sem, ↓reduceIte, Nat.reduceEqDiff, reduceIte, Bool.true_and]
      subst hQ
      simp (disch := first | assumption | omega) only [R.fall_Hello, eh, go_sem, ↓reduceIte, Nat.reduceEqDiff, reduceIte, Bool.true_and]
      exact ⟨.app 6, XS, by rw [hf], fun _ => ⟨rfl, hM⟩, fun e => absurd hf e⟩
end Go.Proofs.Ytpdajkbfemcdlaa
set_option linter.unusedSimpArgs false
set_option linter.unusedVariables false
set_option maxRecDepth 10000
namespace Go.Proofs.Ytpdajkbfemcdlaa
open Go.Ge
theorem firstF_hello (m : Mem) (arm seq clock : Int) : firstF (helloL m arm seq clock) = if msgFault (beatOf arm seq clock) ≠ 0 then msgFault (beatOf arm seq clock) else if 0 < m.Asked.length then (if msgFault (askOf m arm seq clock) ≠ 0 then msgFault (askOf m arm seq clock) else cellsFault m.Asked) else 0 := by
  unfold helloL
  have h0 : checkF (beatOf arm seq clock) = msgFault (beatOf arm seq clock) := by
    unfold checkF
    split
    · rfl
    · rename_i h
      have h : msgFault (beatOf arm seq clock) = 0 := Classical.byContradiction h
      rw [h]; rfl
  rw [firstF, h0]
  split
  · rfl
  · split
    · simp only [firstF, checkF, askOf]
      by_cases hB : msgFault ⟨0, arm, 4, seq, clock, m.Asked⟩ = 0 <;> by_cases hD : cellsFault m.Asked = 0 <;> simp [hB, hD]
    · rfl
end Go.Proofs.Ytpdajkbfemcdlaa
